/- A part of the proof: Am39,Am40,Am41,Am42,Am43,Am44,Am45,Am46,Am47. No conditions. -/
import Derived.Test.YtbhogmdpmkpinaaGreatPG4
set_option linter.unusedVariables false
set_option linter.unusedSimpArgs false
namespace Go.Proofs.YtbhogmdpmkpinaaGreat.P.Am
section
variable{P:Program}{C:Ctx}{w w' w0:World}{S S':Nat->Prop}{L L' L0:Nat->aj}{s N:Nat}{vs:List Nat}{T T':List V}{tm tm':Array Value}{a:Act}
theorem step_append[af](hI:Inv w0 L0 N vs T a w L)(hC:bD P C){o:Oper}{X X2:TypeId}{sO xO:Operand}{d:Nat}{ups:List (Nat×V)}{log:List Nat}
  (ho:o.op = .call { callee:=.builtin .append,args:=#[sO,xO],argTypes:=#[X,X2] }) (aB:o.dst=some d) (hd:d<N) (hid:(T.getD d .dead).idle=true)
  (h:(IU C vs d X X2 sO xO).ai T ups log):Step P o w0 L0 N vs (ah T ups) a w:=by
 unfold IU at h;split at h
 ·rename_i e t hX;split at h
  ·rename_i e2 t2 iO;obtain⟨b,l1,l2,rfl,h1,h⟩:=M.aq h;obtain⟨c,l3,l4,rfl,h2,h⟩:=M.aq h;split at h
   ·rename_i alV;obtain⟨bq,hby,iU⟩:=alV;obtain⟨hg,rfl,_⟩:=h;have hg:=of_decide_eq_true hg;obtain⟨hu,he⟩:=(hC X _ hX).b7;obtain⟨KC,me⟩:=(hC X2 _ iO).b7;obtain⟨i,z,i1,i2,i3,i4,i5⟩:=(hC e t he).info;have ee:∀v∈t.cu,v.oneCell'=true:=Own.one (Own.zero (w:=w) (L:=L) (S:=λ_=>True) (s:=0) (n:=0) (t:=t) (q:=[]) (o:=0));have jt:=Form.cells i5 ee;have iz:z.cells.size=t.sz:=by rw[<-Array.length_toList,jt,Ty.jN]
    obtain⟨so,nU,XG⟩:=akP hI h1 d;obtain⟨news,c7,o9,bz⟩:=aqW hI h2 KC;have gu:=c7.total;have X9:b.xs.length+c.ys.length<=140737488355328:=Nat.le_trans (Nat.le_mul_of_pos_right _ (by omega)) hg;have tj:b.xs.length+c.ys.length<=maxLen:=by simp only[maxLen];omega
    have Yx:(b.s=some so/\so∉vs/\(T.getD so .dead).aM=true)\/(b.s=none/\so=d):=nU.imp (λh=>⟨h.1,h.2.1,h.2.2.1⟩) id;have bo:∀s,c.s=some s->s≠so:=by
     intro s hs;rcases nU with⟨hb,_⟩|⟨hb,rfl⟩
     ·rintro rfl
      rw[hs,hb]at iU;simp at iU
     ·exact di hid (o9 s hs).2.1
    have fin:∀(kept:Bool) (nl:Nat->aj) (w':World) (g pU:Nat) (cur':Array Value) (ja:List Value),
      (Builtin.append_ #[X,X2] o.type #[a.eval sO,a.eval xO]).run P w = .ok (.slice (some ⟨g,0,none⟩) (b.xs.length+c.ys.length) pU) w' ->
      Wd w w' L nl (λs=>s=d\/s=so\/c.s=some s)->(∀k s q,w.heap.size<=k->nl k = .own s q->s=d/\q=[0]/\k=w.heap.size/\kept=false) ->
      aU (gM d so c.s kept (b.xs.length*t.sz) (c.ys.length*t.sz) (jT b.n c.n)) w L nl g = .own d [0] ->
      w'.heap[g]?=some (.cells cur' e (0,0))->b.xs.length+c.ys.length<=pU->pU<=maxLen->cur'.size=pU*t.sz ->
      (∀k,L k ≠ .free->L k ≠ .own so [0]->w'.heap[k]?=w.heap[k]?) ->
      (∀i,i<b.xs.length*t.sz->cur'[i]?=ja[i]?)->(∀i,i<c.ys.length*t.sz->cur'[b.xs.length*t.sz+i]?=news[i]?) ->
      (∀(L':Nat->aj) (w':World) (m:Nat),m<=b.n->(∀k,L k = .au->L' k = .au/\w'.heap[k]?=w.heap[k]?) ->
       (∀k y rest,y<b.xs.length*t.sz->L k = .own so (0::y::rest)->w'.heap[k]?=w.heap[k]?/\(rest.length<m->L' k = .own d (0::y::rest))/\(m<=rest.length->L' k = .au)) ->
       ∀j (h:j<b.xs.length),Own w' L' (SL L' none) d m t (b.xs[j]) [0] (j*t.sz) ((ja.drop (j*t.sz)).take t.sz)) ->
      Step P o w0 L0 N vs (ah T ((b.s.toList++c.s.toList).map (λs=>(s,V.dead))++[(d,.d none (jT b.n c.n+1) (.slice e t) (b.xs++c.ys))])) a w:=by
     intro kept nl w' g pU cur' ja aP hw amJ gS Ka CX alR oX hold eA dL sV;have wB:(execOp a.eval o).run P w = .ok (.value (.slice (some ⟨g,0,none⟩) (b.xs.length+c.ys.length) pU)) w':=by
      simp[execOp,ho,resolve,invoke,builtin,aP]
     refine Step.value aB wB (Inv.app (b1:=b.xs.length*t.sz) (b2:=c.ys.length*t.sz) (m:=jT b.n c.n) hI hd hid Yx (λs hs=>⟨(o9 s hs).1,(o9 s hs).2.1⟩) hw amJ rfl (by simp[V.aM,Ty.depth]) (λT' tm'=>?_));refine⟨by simp,_,rfl,?_⟩;simp only[Own];refine .inr ⟨g,pU,cur',by rw[List.length_append],by simpa using gS,Ka,by rw[List.length_append];exact CX,alR,oX,λj hj=>?_⟩;have ba:∀k,L k = .au->aU (gM d so c.s kept (b.xs.length*t.sz) (c.ys.length*t.sz) (jT b.n c.n)) w L nl k = .au/\w'.heap[k]?=w.heap[k]? :=
      λk hk=>⟨eD hI hk,hold k (by rw[hk];simp) (by rw[hk];simp)⟩
     by_cases XW:j<b.xs.length
     ·rw[List.getElem_append_left XW];have KJ:(cur'.toList.drop (j*t.sz)).take t.sz=(ja.drop (j*t.sz)).take t.sz:=rf λk hk=>by
       have:(j+1)*t.sz<=b.xs.length*t.sz:=Nat.mul_le_mul_right _ (by omega);rw[Nat.add_mul,Nat.one_mul]at this;rw[Array.getElem?_toList];exact eA _ (by omega)
      rw[KJ];refine sV _ w' _ VS.1 ba (λk y rest hy hk=>?_) j XW;have im:aU (gM d so c.s kept (b.xs.length*t.sz) (c.ys.length*t.sz) (jT b.n c.n)) w L nl k=if rest.length<jT b.n c.n then .own d (0::y::rest)else .au:=by
       rw[c8 hI (by rw[hk];simp),hk];simp[eR,gM,hy]
      refine⟨hold k (by rw[hk];simp) (by rw[hk];simp),λh=>?_,λh=>?_⟩
      ·rw[im,if_pos h]
      ·rw[im,if_neg (by omega)]
     ·rw[List.getElem_append_right (by omega)];have wM:j - b.xs.length<c.ys.length:=by rw[List.length_append]at hj;omega
      have Da:j*t.sz=b.xs.length*t.sz+(j - b.xs.length)*t.sz:=by rw[<-Nat.add_mul];congr 1;omega
      have KJ:(cur'.toList.drop (j*t.sz)).take t.sz=(news.drop ((j - b.xs.length)*t.sz)).take t.sz:=rf λk hk=>by
       have:(j - b.xs.length+1)*t.sz<=c.ys.length*t.sz:=Nat.mul_le_mul_right _ (by omega);rw[Nat.add_mul,Nat.one_mul]at this;rw[Array.getElem?_toList,Da,Nat.add_assoc];exact dL _ (by omega)
      rw[KJ,Da];refine bz _ w' d (b.xs.length*t.sz) _ (λk hk=>VS.2 k hk) ba (λs k y rest hs hy hk=>?_) _ wM;have im:aU (gM d so c.s kept (b.xs.length*t.sz) (c.ys.length*t.sz) (jT b.n c.n)) w L nl k=if rest.length<jT b.n c.n then .own d (0::(b.xs.length*t.sz+y)::rest)else .au:=by
       rw[c8 hI (by rw[hk];simp),hk];simp[eR,gM,bo s hs,hs,hy]
      refine⟨hold k (by rw[hk];simp) (by rw[hk];simp),λh=>?_,λh=>?_⟩
      ·rw[im,if_pos h]
      ·rw[im,if_neg (by omega)]
    have grow:∀(bs:Option Addr) (sc:Nat) (ja:List Value),a.eval sO = .slice bs b.xs.length sc->sc<b.xs.length+c.ys.length->ja.length=b.xs.length*t.sz ->
      (Builtin.firstCells i.size b.xs.length (.slice bs b.xs.length sc)).run P w.drew = .ok ja.toArray w.drew ->
      (∀(L':Nat->aj) (w':World) (m:Nat),m<=b.n->(∀k,L k = .au->L' k = .au/\w'.heap[k]?=w.heap[k]?) ->
       (∀k y rest,y<b.xs.length*t.sz->L k = .own so (0::y::rest)->w'.heap[k]?=w.heap[k]?/\(rest.length<m->L' k = .own d (0::y::rest))/\(m<=rest.length->L' k = .au)) ->
       ∀j (h:j<b.xs.length),Own w' L' (SL L' none) d m t (b.xs[j]) [0] (j*t.sz) ((ja.drop (j*t.sz)).take t.sz)) ->
      Step P o w0 L0 N vs (ah T ((b.s.toList++c.s.toList).map (λs=>(s,V.dead))++[(d,.d none (jT b.n c.n+1) (.slice e t) (b.xs++c.ys))])) a w:=by
     intro bs sc ja cZ ax Yh al6 sV;have aP:=akF (P:=P) (w:=w) (ty:=o.type) (X2:=X2) hu i1 i4 al6 (by rw[i2];exact c7) ax tj (by rw[i3];exact hg);rw[<-cZ]at aP;have mg:=grownCap_ge w (b.xs.length+c.ys.length) sc e;have CZ:=grownCap_le_maxLen w (b.xs.length+c.ys.length) sc e tj;have hL1:(ja++news).length=(b.xs.length+c.ys.length)*t.sz:=by rw[List.length_append,Yh,gu,Nat.add_mul]
     refine fin false (λk=>if k=w.heap.size then .own d [0]else .free) _ w.heap.size _ _ ja aP ?_ ?_ ?_ (o3 w.drew _) mg CZ ?_ ?_ ?_ ?_ sV
     ·refine⟨rfl,rfl,rfl,by simp,Nat.le_succ _,λk hk _=>Go.RowKit.Below.heap_alloc w.drew _ k hk,λk hk=>?_,λk s q hk h=>?_⟩
      ·simp at hk;rw[if_neg (by omega)]
      ·split at h
       ·injection h with h _;exact .inl h.symm
       ·cases h
     ·intro k s q hk h;split at h
      ·injection h with h1 h2;exact⟨h1.symm,h2.symm,by assumption,rfl⟩
      ·cases h
     ·unfold aU;rw[if_neg (by omega)];simp
     ·rw[Array.size_append,List.size_toArray,hL1,size_zeroCells,iz,<-Nat.add_mul];congr 1;omega
     ·exact λk hk _=>Go.RowKit.Below.heap_alloc w.drew _ k (hI.lt hk)
     ·intro k hk;rw[Array.getElem?_append_left (by simp only[List.size_toArray];rw[List.length_append];omega),List.getElem?_toArray,List.getElem?_append_left (by omega)]
     ·intro k hk;rw[Array.getElem?_append_left (by simp only[List.size_toArray];rw[List.length_append];omega),List.getElem?_toArray,List.getElem?_append_right (by omega),Yh];congr 1;omega
    simp only[Own]at XG;rcases XG with⟨gr,jA⟩|⟨g,cap,cur,dh,hL,C5,h5,h6,h7,h8⟩
    ·have gr:a.eval sO=_:=(List.cons.inj gr).1;by_cases hy:c.ys=[]
     ·have am1:fU P i.size X2 (a.eval xO) 0 [] w:=by
       rw[hy]at c7 gu;have:news=[]:=List.eq_nil_of_length_eq_zero (by simpa using gu);rw[this]at c7;rw[i2];exact c7
      have aP:=akG (P:=P) (ty:=o.type) hu i1 am1;rw[<-gr]at aP;have wB:(execOp a.eval o).run P w = .ok (.value (a.eval sO)) w:=by
       simp[execOp,ho,resolve,invoke,builtin,aP]
      refine Step.value aB wB (Inv.app (kept:=false) (b1:=0) (b2:=0) (m:=0) (nl:=λ_=>.free) hI hd hid Yx (λs hs=>⟨(o9 s hs).1,(o9 s hs).2.1⟩) (Wd.refl hI _) (λk s q _ h=>by cases h) rfl (by simp[V.aM,Ty.depth]) (λT' tm'=>?_));refine⟨by simp,_,rfl,?_⟩;simp only[Own];exact .inl ⟨by rw[gr],by rw[jA,hy];rfl⟩
     ·have Kp:0<c.ys.length:=List.length_pos_iff.2 hy;have h0:b.xs.length=0:=by rw[jA];rfl
      refine grow none 0 [] (by rw[h0];exact gr) (by omega) (by rw[h0];simp) ?_ (λL' w' m _ _ _ j hj=>absurd hj (by omega));rw[h0];exact run_firstCells_none w.drew i.size 0 0 0
    ·have dh:a.eval sO=_:=(List.cons.inj dh).1;have hL:L g = .own so [0]:=by simpa using hL
     have hle:b.xs.length*t.sz<=cur.size:=by rw[h7];exact Nat.mul_le_mul_right _ h5
     have sV:∀(L':Nat->aj) (w':World) (m:Nat),m<=b.n->(∀k,L k = .au->L' k = .au/\w'.heap[k]?=w.heap[k]?) ->
       (∀k y rest,y<b.xs.length*t.sz->L k = .own so (0::y::rest)->w'.heap[k]?=w.heap[k]?/\(rest.length<m->L' k = .own d (0::y::rest))/\(m<=rest.length->L' k = .au)) ->
       ∀j (h:j<b.xs.length),Own w' L' (SL L' none) d m t (b.xs[j]) [0] (j*t.sz) (((cur.toList.take (b.xs.length*t.sz)).drop (j*t.sz)).take t.sz):=by
      intro L' w' m hm ba im j hj;have hjb:j*t.sz+t.sz<=b.xs.length*t.sz:=by
       have:(j+1)*t.sz<=b.xs.length*t.sz:=Nat.mul_le_mul_right _ (by omega)
       rwa [Nat.add_mul,Nat.one_mul]at this
      have hw:((cur.toList.take (b.xs.length*t.sz)).drop (j*t.sz)).take t.sz=(cur.toList.drop (j*t.sz)).take t.sz:=rf λk hk=>by
       rw[List.getElem?_take,if_pos (by omega)]
      rw[hw];refine Own.fp hm (λk hk=>?_) (λk y rest hy hk=>?_) (h8 j hj)
      ·rcases hk with hk|⟨_,_,hk,_⟩
       ·exact⟨.inl (ba k hk).1,(ba k hk).2⟩
       ·cases hk
      ·have aI:L k = .own so (0::(j*t.sz+y)::rest):=by simpa using hk
       have:=im k (j*t.sz+y) rest (by omega) aI;exact⟨this.1,λh=>by simpa using this.2.1 h,λh=>.inl (this.2.2 h)⟩
     by_cases tl:b.xs.length+c.ys.length<=cap
     ·
      have o4:b.xs.length*t.sz+news.length<=cur.size:=by
       rw[gu,<-Nat.add_mul,h7];exact Nat.mul_le_mul_right _ tl
      obtain⟨s1,s2,s3,s4,s5,cur',s6,s7,s8⟩:=abA news (b.xs.length*t.sz) w cur e C5 o4;have qe:∀j,j<news.length->w.cell? ⟨g,b.xs.length*i.size+j,none⟩=cur[b.xs.length*t.sz+j]?:=by
       intro j hj;simp[World.cell?,C5,i2]
      have aP:=akH (P:=P) (w:=w) (ty:=o.type) (X2:=X2) (g:=g) hu i1 (by rw[i2];exact c7) tl
       (λj hj=>by rw[qe j hj,Array.getElem?_eq_getElem (by omega)];rfl) (λj hj=>by simp[World.frozen?,C5])
      rw[<-dh,i2]at aP;have cG:g<w.heap.size:=hI.lt (by rw[hL];simp);refine fin true (λ_=>.free) _ g cap cur' (cur.toList.take (b.xs.length*t.sz)) aP ?_ (λk s q _ h=>by cases h) ?_ s6 tl h6 (by rw[s7,h7]) ?_ ?_ ?_ sV
      ·refine⟨s1,s2,s3,by rw[s4];exact Nat.le_refl _,Nat.le_of_eq (abz _ _ _).symm,λk hk h=>?_,λk _=>rfl,λk s q _ h=>by cases h⟩;exact s5 k (λe=>by subst e;exact h so [0] hL (.inr (.inl rfl)))
      ·rw[c8 hI (by rw[hL];simp),hL];simp[eR,gM]
      ·intro k hk gT;exact s5 k (λe=>by subst e;exact gT hL)
      ·intro k hk;rw[s8,if_neg (by omega),List.getElem?_take,if_pos hk,Array.getElem?_toList]
      ·intro k hk;rw[s8,if_pos (by omega)];congr 1;omega
     ·
      have hlen:(cur.toList.take (b.xs.length*t.sz)).length=b.xs.length*t.sz:=by rw[List.length_take];simp;omega
      refine grow (some ⟨g,0,none⟩) cap _ dh (by omega) hlen ?_ sV;refine run_firstCells_some w.drew i.size b.xs.length ⟨g,0,none⟩ b.xs.length cap _ (by rw[hlen,i2]) (λj u hu=>?_);rw[List.getElem?_take]at hu;split at hu
      ·show w.cell? _=_;rw[show (⟨g,0,none⟩:Addr).add j=⟨g,j,none⟩by rw[Addr.add_lit,Nat.zero_add]];simp only[World.cell?,C5];simpa using hu
      ·cases hu
   ·exact h.elim
  ·exact h.elim
 ·exact h.elim
end
abbrev mW:=Nat×Option (Nat×(t:Ty)×t.den)
def Wp(d i:Nat):Option (Nat×(t:Ty)×t.den)->Option V
 | some (n,⟨t,x⟩)=>if n≠0/\t.depth≠0 then some (.part d i n t x)else none
 | none=>none
def partsOf(d:Nat)(h:Nat->Option Nat):Nat->Nat->List mW->List ((Nat×Nat×Nat)×V)
 | _,_,[]=>[]
 | i,o,(sz,c)::l=>match h i,Wp d i c with
  | some e,some v=>((e,o,sz),v)::partsOf d h (i+1) (o+sz) l
  | _,_=>partsOf d h (i+1) (o+sz) l
def iC:List mW->List mW
 | []=>[]
 | (sz,c)::l=>(sz,if Cv c=true then none else c)::iC l
def xg{α:Type}:List Nat->M α->M α
 | [],m=>m
 | s::l,m=>.get s λv=>.bn v.idle (xg l m)
def ab3(vs:List Nat)(N d s:Nat)(h:Nat->Option Nat):M (List (Nat×V)):=
 .get s λv=>match v with
 | .bF l =>
  if cr (d::s::(partsOf d h 0 0 l).map (·.1.1))=true/\((partsOf d h 0 0 l).all λp=>decide (p.1.1<N))=true/\vs.contains s=false/\vs.contains d=true then
   xg (d::(partsOf d h 0 0 l).map (·.1.1)) (.ret ((s,V.dead)::((partsOf d h 0 0 l).map (λp=>(p.1.1,p.2))++[(d,.bF (iC l))])))
  else .fail
 | _=>.fail
def WJ(vs:List Nat)(d:Nat)(x:Operand)(i:Nat):M (List (Nat×V)):=
 match x with
 | .tmp s=>.get d λvd=>match vd with
  | .part r j n t y=>if r=s/\j=i/\vs.contains d=false/\n≠0/\t.depth≠0 then .ret [(d,.d none n t y)]else .fail
  | _=>.bn vd.idle (.get s λv=>match v with
   | .bF l=>match l[i]? with
    | some (_,some (n,⟨t,y⟩))=>if n=0\/t.depth=0 then .ret [(d,.d none n t y)]else .fail
    | _=>.fail
   | _=>.fail)
 | _=>.fail
def lB(s d:Nat)(ms:List (Nat×Nat×Nat)):Nat->List Nat->aj:=λr z =>
 if r=s then match z with
  | y::rest=>match ms.find? (λp=>decide (p.2.1<=y)&&decide (y<p.2.1+p.2.2))with
   | some p=>.own p.1 ((y - p.2.1)::rest)
   | none=>.other
  | []=>.other
 else if r=d\/r∈ms.map (·.1)then .other else .own r z
theorem xF{s d:Nat}{ms:List (Nat×Nat×Nat)}{r:Nat}{z:List Nat}{s':Nat}{z':List Nat}(h:lB s d ms r z = .own s' z'):
  (r=s/\∃p y rest,p∈ms/\z=y::rest/\p.2.1<=y/\y<p.2.1+p.2.2/\s'=p.1/\z'=(y - p.2.1)::rest)\/(r≠s/\r≠d/\r∉ms.map (·.1)/\s'=r/\z'=z):=by
 unfold lB at h;split at h
 ·rename_i hr;split at h
  ·rename_i y rest;split at h
   ·rename_i p hp;injection h with h1 h2;have hb:=List.find?_some hp;simp only[Bool.and_eq_true,decide_eq_true_eq]at hb;exact .inl ⟨hr,p,y,rest,List.mem_of_find?_eq_some hp,rfl,hb.1,hb.2,h1.symm,h2.symm⟩
   ·cases h
  ·cases h
 ·rename_i hr;split at h
  ·cases h
  ·rename_i hn;have hn:=not_or.1 hn;injection h with h1 h2;exact .inr ⟨hr,hn.1,hn.2,h1.symm,h2.symm⟩
theorem aa4[af]{s d b:Nat}{ms:List (Nat×Nat×Nat)}(hs:fc b ms)(hn:cr (ms.map (·.1))=true):fL (lB s d ms) (λr=>r=s\/r=d\/r∈ms.map (·.1)):=by
 refine⟨λr z hX=>?_,λr z s' z' hX h=>?_,λr z r2 z2 s' z' h1 h2=>?_,λr z=>?_⟩
 ·have h1:=not_or.1 hX;unfold lB;rw[if_neg h1.1,if_neg h1.2]
 ·rcases xF h with⟨_,p,_,_,hp,_,_,_,rfl,_⟩|⟨h1,h2,h3,rfl,_⟩
  ·exact .inr (.inr (List.mem_map_of_mem hp))
  ·rcases hX with h|h|h
   ·exact absurd h h1
   ·exact absurd h h2
   ·exact absurd h h3
 ·rcases xF h1 with⟨rfl,p,y,rest,hp,rfl,b1,b2,rfl,rfl⟩|⟨g1,g2,g3,rfl,rfl⟩
  ·rcases xF h2 with⟨rfl,p',y',fJ,cC,rfl,b1',b2',he,h3⟩|⟨_,_,g3,h3,_⟩
   ·have f1:=p6 hn hp;have f2:=p6 hn cC;rw[he]at f1;rw[f1]at f2;cases f2;simp only[List.cons.injEq]at h3;obtain⟨h3,rfl⟩:=h3;exact⟨rfl,by rw[show y=y' by omega]⟩
   ·exact absurd (h3▸List.mem_map_of_mem hp) g3
  ·rcases xF h2 with⟨_,p',_,_,cC,_,_,_,h3,_⟩|⟨_,_,_,h3,h4⟩
   ·exact absurd (h3▸List.mem_map_of_mem cC) g3
   ·exact⟨h3,h4⟩
 ·unfold lB
  repeat' split
  all_goals simp
theorem aa3[af]{s d b:Nat}{ms:List (Nat×Nat×Nat)}(hs:fc b ms)(hn:cr (ms.map (·.1))=true){p:Nat×Nat×Nat}(hp:p∈ms){i:Nat}(hi:i<p.2.2){rest:List Nat}:
  lB s d ms s ((p.2.1+i)::rest) = .own p.1 (i::rest):=by
 unfold lB;rw[if_pos rfl];dsimp only;have hx:∃q,ms.find? (λq=>decide (q.2.1<=p.2.1+i)&&decide (p.2.1+i<q.2.1+q.2.2))=some q:=by
  rw[<-Option.isSome_iff_exists,List.find?_isSome];exact⟨p,hp,by simp;omega⟩
 obtain⟨q,hq⟩:=hx;have Yr:=List.mem_of_find?_eq_some hq;have hb:=List.find?_some hq;simp only[Bool.and_eq_true,decide_eq_true_eq]at hb;have hqp:q=p:=by
  apply Classical.byContradiction;intro bo;by_cases h1:q.1=p.1
  ·have f1:=p6 hn hp;have f2:=p6 hn Yr;rw[h1,f1]at f2;exact bo (Option.some.inj f2).symm
  ·have:=hs.Wy hn q p Yr hp h1;omega
 subst hqp;rw[hq];simp only[aj.own.injEq,List.cons.injEq,and_true,true_and];omega
theorem DS{d:Nat}{h:Nat->Option Nat}:{l:List mW}->{i o:Nat}->fc o ((partsOf d h i o l).map (·.1))
 | [],_,_=>trivial
 | (sz,c)::l,i,o=>by
  simp only[partsOf];split
  ·exact⟨Nat.le_refl _,DS⟩
  ·exact fc.axf (Nat.le_add_right _ _) DS
 where
 fc.axf:{b b':Nat}->{ms:List (Nat×Nat×Nat)}->b<=b'->fc b' ms->fc b ms
 | _,_,[],_,_=>trivial
 | _,_,_::_,h,h2=>⟨Nat.le_trans h h2.1,h2.2⟩
section
variable{P:Program}{C:Ctx}{w w' w0:World}{S S':Nat->Prop}{L L' L0:Nat->aj}{s N:Nat}{vs:List Nat}{T T':List V}{tm tm':Array Value}{a:Act}
theorem LL{d:Nat}{h:Nat->Option Nat}:{l:List mW}->{i o:Nat}->{dy:List Value}->fe w L s o l dy->∀p v,(p,v)∈partsOf d h i o l ->
  ∃j n t x u cs,v = .part d (i+j) n t x/\dy[j]?=some u/\t.sz=p.2.2/\Form t cs u/\Own w L (SL L none) s n t x [] p.2.1 cs
 | [],_,_,_,_,_,_,hm=>by simp[partsOf]at hm
 | (sz,c)::l,i,o,dy,hr,p,v,hm=>by
  obtain⟨u,jg,rfl,h1,h2⟩:=hr;have Yu:(p,v)∈partsOf d h (i+1) (o+sz) l->∃j n t x u' cs,v = .part d (i+j) n t x/\(u::jg)[j]?=some u'/\t.sz=p.2.2/\Form t cs u'/\Own w L (SL L none) s n t x [] p.2.1 cs:=by
   intro hm;obtain⟨j,n,t,x,u',cs,e1,e2,e3,e4,e5⟩:=LL h2 p v hm;exact⟨j+1,n,t,x,u',cs,by rw[e1,show i+1+j=i+(j+1)by omega],by simpa using e2,e3,e4,e5⟩
  simp only[partsOf]at hm;split at hm
  ·rename_i e v' he pd;rcases List.mem_cons.1 hm with hm|hm
   ·injection hm with hp hv;subst hp hv;unfold Wp at pd;split at pd
    ·rename_i n t x;split at pd
     ·injection pd with pd;obtain⟨h3,cs,h4,h5⟩:=h1 n t x rfl;exact⟨0,n,t,x,u,cs,pd.symm,rfl,h3,h4,h5⟩
     ·cases pd
    ·cases pd
   ·exact Yu hm
  ·exact Yu hm
theorem LY{s':Nat}(H:∀k,L k = .au->L' k = .au/\w'.heap[k]?=w.heap[k]?):{l:List mW}->{o:Nat}->{dy:List Value}->fe w L s o l dy->fe w' L' s' o (iC l) dy
 | [],_,_,h=>h
 | (sz,c)::l,o,dy,⟨v,jg,h1,h2,h3⟩=>by
  refine⟨v,jg,h1,λn t x hc=>?_,LY H h3⟩;split at hc
  ·cases hc
  ·rename_i hco;obtain⟨h4,cs,h5,h6⟩:=h2 n t x hc;subst hc;refine⟨h4,cs,h5,?_⟩;have iS:¬n=0->t.depth=0:=by simpa[Cv]using hco
   have hn:n=0\/t.depth=0:=by omega
   rcases hn with hn|hn
   ·subst hn;refine Own.dP (Rd.move (λk hk=>?_) (Own.eQ h6));rcases hk with hk|⟨_,_,hk,_⟩
    ·exact⟨.inl (H k hk).1,(H k hk).2⟩
    ·cases hk
   ·exact Own.flat hn h6
theorem ab0:{l:List mW}->{o i:Nat}->{dy:List Value}->{sz n:Nat}->{t:Ty}->{x:t.den}->fe w L s o l dy->l[i]?=some (sz,some (n,⟨t,x⟩))->∃o' u cs,dy[i]?=some u/\Form t cs u/\Own w L (SL L none) s n t x [] o' cs
 | [],_,_,_,_,_,_,_,_,h=>by simp at h
 | (fK,c)::l,o,0,dy,sz,n,t,x,⟨v,jg,h1,h2,h3⟩,h=>by
  simp only[List.getElem?_cons_zero,Option.some.injEq,Prod.mk.injEq]at h;obtain⟨_,cs,h5,h6⟩:=h2 n t x h.2;exact⟨o,v,cs,by rw[h1];rfl,h5,h6⟩
 | (fK,c)::l,o,i+1,dy,sz,n,t,x,⟨v,jg,h1,h2,h3⟩,h=>by
  obtain⟨o',u,cs,e1,e2,e3⟩:=ab0 h3 (by simpa using h);exact⟨o',u,cs,by rw[h1];simpa using e1,e2,e3⟩
theorem Di{α:Type}{m:M α}{x:α}:{l:List Nat}->{log:List Nat}->(xg l m).ai T x log->(∀s∈l,(T.getD s .dead).idle=true)/\∃aG,m.ai T x aG
 | [],log,h=>⟨by simp,log,h⟩
 | s::l,log,h=>by
  obtain⟨aG,rfl,hc,h⟩:=h;obtain⟨h1,h2⟩:=Di h;exact⟨λs' hs=>by rcases List.mem_cons.1 hs with rfl|hs;exact hc;exact h1 s' hs,h2⟩
theorem sL[af]{ups:List (Nat×V)}(hn:cr (ups.map (·.1))=true){s:Nat}{v:V}(hm:(s,v)∈ups){T:List V}(hs:s<T.length):(ah T ups).getD s .dead=v:=by
 unfold ah;induction ups generalizing T with
 | nil=>cases hm
 | cons u l ih =>
  simp only[List.map_cons,cr,Bool.and_eq_true,Bool.not_eq_true']at hn;simp only[List.foldl_cons];rcases List.mem_cons.1 hm with rfl|hm
  ·have:=fg l (T.set s v) s (λh=>by
    have h2:=List.contains_iff_mem.2 h;rw[hn.1]at h2;cases h2)
   unfold ah at this;rw[this,aH,if_pos ⟨rfl,hs⟩]
  ·exact ih hn.2 hm (by simpa using hs)
theorem Lx{l:List Nat}:cr l=true->l.Nodup:=by
 induction l with
 | nil=>intro _;exact List.nodup_nil
 | cons x l ih =>
  intro h;simp only[cr,Bool.and_eq_true,Bool.not_eq_true']at h;refine List.nodup_cons.2 ⟨λhm=>?_,ih h.2⟩;rw[List.contains_iff_mem.2 hm]at h;cases h.1
theorem xA{l:List Nat}:l.Nodup->cr l=true:=by
 induction l with
 | nil=>intro _;rfl
 | cons x l ih =>
  intro h;obtain⟨h1,h2⟩:=List.nodup_cons.1 h;simp only[cr,Bool.and_eq_true,Bool.not_eq_true',ih h2,and_true];rw[Bool.eq_false_iff];intro hc;exact h1 (List.contains_iff_mem.1 hc)
theorem ars[af](hI:Inv w0 L0 N vs T a w L){o:Oper}{d s:Nat}{h:Nat->Option Nat}{ups:List (Nat×V)}{log:List Nat}(ho:qC o (.tmp s))(aB:o.dst=some d)(hd:d<N)
  (hr:(ab3 vs N d s h).ai T ups log):Step P o w0 L0 N vs (ah T ups) a w:=by
 obtain⟨aG,rfl,hr⟩:=hr;dsimp only at hr;have hs:=hI.aY s;generalize hv:T.getD s .dead=v at hr hs;split at hr
 ·rename_i l;split at hr
  ·rename_i hc;obtain⟨cG,ax,jz,s9⟩:=hc;obtain⟨kh,log2,hr⟩:=Di hr;obtain⟨rfl,_⟩:=hr;obtain⟨dy,ek,dM⟩:=hs;generalize my:partsOf d h 0 0 l=ps at cG ax kh;have w8:fc 0 (ps.map (·.1)):=by rw[<-my];exact DS
   have wU:=Lx cG;have jy:ps.map (·.1.1)=(ps.map (·.1)).map (·.1):=by rw[List.map_map];rfl
   obtain⟨XP,amI⟩:=List.nodup_cons.1 wU;obtain⟨lk,qk⟩:=List.nodup_cons.1 amI;have iQ:d≠s:=λe=>XP (by rw[e];simp);have cF:d∉ps.map (·.1.1):=λe=>XP (List.mem_cons_of_mem _ e);have wT:cr ((ps.map (·.1)).map (·.1))=true:=by rw[<-jy];exact xA qk
   have axO:(T.getD s .dead).aM=true:=by rw[hv];rfl
   have b9:s<N:=by
    apply Classical.byContradiction;intro mg;rw[eJ (by rw[hI.len];omega)]at hv;cases hv
   let U:List (Nat×V):=(s,V.dead)::(ps.map (λp=>(p.1.1,p.2))++[(d,.bF (iC l))]);have hU:U.map (·.1)=s::(ps.map (·.1.1)++[d]):=by simp[U,List.map_map,Function.comp_def]
   have oW:cr (U.map (·.1))=true:=by
    rw[hU];refine xA (List.nodup_cons.2 ⟨λhm=>?_,?_⟩)
    ·rcases List.mem_append.1 hm with hm|hm
     ·exact lk hm
     ·exact iQ (List.mem_singleton.1 hm).symm
    ·rw[List.nodup_append];refine⟨qk,by simp,λx hx y hy e=>?_⟩;rw[List.mem_singleton]at hy;subst e hy;exact cF hx
   have bI:(ah T U).getD s .dead = .dead:=sL oW (by simp[U]) (by rw[hI.len];exact b9);have bU:(ah T U).getD d .dead = .bF (iC l):=sL oW (by simp[U]) (by rw[hI.len];exact hd);have qb:∀p v,(p,v)∈ps->(ah T U).getD p.1 .dead=v:=by
    intro p v hp;refine sL oW ?_ ?_
    ·refine List.mem_cons_of_mem _ (List.mem_append_left _ (List.mem_map.2 ⟨(p,v),hp,rfl⟩))
    ·rw[List.all_eq_true]at ax;rw[hI.len];simpa using ax _ hp
   have br:∀z,¬(z=s\/z=d\/z∈(ps.map (·.1)).map (·.1))->(ah T U).getD z .dead=T.getD z .dead:=by
    intro z hz;refine fg _ _ _ ?_;rw[hU,jy];intro hm;rcases List.mem_cons.1 hm with hm|hm
    ·exact hz (.inl hm)
    ·rcases List.mem_append.1 hm with hm|hm
     ·exact hz (.inr (.inr hm))
     ·exact hz (.inr (.inl (List.mem_singleton.1 hm)))
   have qn:∀p v,(p,v)∈ps->∃j n t x u cs,v = .part d j n t x/\dy.toList[j]?=some u/\t.sz=p.2.2/\Form t cs u/\Own w L (SL L none) s n t x [] p.2.1 cs:=by
    intro p v hp;rw[<-my]at hp;obtain⟨j,n,t,x,u,cs,e1,e2⟩:=LL dM p v hp;exact⟨0+j,n,t,x,u,cs,e1,by rw[Nat.zero_add];exact e2⟩
   have gn:∀z,z∈(ps.map (·.1)).map (·.1)->∃p v,(p,v)∈ps/\p.1=z:=by
    intro z hz;rw[<-jy]at hz;obtain⟨⟨p,v⟩,hp,rfl⟩:=List.mem_map.1 hz;exact⟨p,v,hp,rfl⟩
   refine Step.value aB (tS ho) (Inv.gY (T':=ah T U) (f:=lB s d (ps.map (·.1))) (X:=λz=>z=s\/z=d\/z∈(ps.map (·.1)).map (·.1)) (nl:=λ_=>.free) hI (aa4 w8 wT) (Wd.refl hI _) (λ_ _ _ _ _ h=>by cases h) (by simp[Act.put,hI.size]) (by rw[cH,hI.len]) hI.dR ?_ ?_ ?_ ?_ ?_)
   ·intro k z q hz hk;rcases hz with rfl|rfl|hz
    ·exfalso;unfold aU at hk;split at hk
     ·obtain⟨s0,q0,e0,f0⟩:=eZ hk;rcases xF f0 with⟨_,p,_,_,hp,_,_,_,h7,_⟩|⟨h1,_,_,h7,_⟩
      ·exact lk (by rw[jy,h7];exact List.mem_map_of_mem hp)
      ·exact h1 h7.symm
     ·cases hk
    ·rw[bU];rfl
    ·obtain⟨p,v,hp,rfl⟩:=gn z hz;rw[qb p v hp];obtain⟨j,n,t,x,u,cs,rfl,_⟩:=qn p v hp;rfl
   ·intro z r hz ag hr;rcases hr with rfl|hr
    ·exfalso;have:=hI.roots z _ ag;rw[List.contains_iff_mem.2 this]at jz;cases jz
    ·refine V.kG (kh r ?_);rcases hr with rfl|hr
     ·simp
     ·rw[jy];exact List.mem_cons_of_mem _ hr
   ·intro z hz;refine⟨br z hz,?_⟩;show (a.tmps.setIfInBounds d _).getD z undef=_;rw[ed,if_neg (λe=>hz (.inr (.inl e.1)))]
   ·intro z r hz ag;rcases hz with rfl|rfl|hz
    ·rw[bI]at ag;simp[V.on,V.root]at ag
    ·rw[bU]at ag;simp[V.on,V.root]at ag
    ·obtain⟨p,v,hp,rfl⟩:=gn z hz;rw[qb p v hp]at ag;obtain⟨j,n,t,x,u,cs,rfl,_⟩:=qn p v hp;simp only[V.on,V.root,beq_iff_eq,Option.some.injEq]at ag;subst ag;exact List.contains_iff_mem.1 s9
   ·intro z hz;have gv:(a.put (some d) (a.eval (.tmp s))).tmps.getD d undef=a.tmps.getD s undef:=by
     show (a.tmps.setIfInBounds d _).getD d undef=_;rw[ed,if_pos ⟨rfl,by rw[hI.size];exact hd⟩];rfl
    rcases hz with rfl|rfl|hz
    ·rw[bI];trivial
    ·rw[bU,gv];exact⟨dy,ek,LY (λk hk=>⟨eD hI hk,rfl⟩) dM⟩
    ·obtain⟨p,v,hp,rfl⟩:=gn z hz;rw[qb p v hp];obtain⟨j,n,t,x,u,cs,rfl,e2,e3,e4,e5⟩:=qn p v hp;refine⟨by rw[bU];rfl,dy,u,cs,by rw[gv];exact ek,by simpa using e2,e4,?_⟩;refine Own.move (λk hk=>?_) (λk i rest hi hk=>⟨?_,rfl⟩) e5
     ·rcases hk with hk|⟨_,_,hk,_⟩
      ·exact⟨.inl (eD hI hk),rfl⟩
      ·cases hk
     ·have aI:L k = .own s ((p.2.1+i)::rest):=by simpa using hk
      rw[c8 hI (by rw[aI];simp),aI];have:=aa3 (s:=s) (d:=d) w8 wT (List.mem_map_of_mem (f:=(·.1)) hp) (i:=i) (by rw[<-e3];exact hi) (rest:=rest);simpa[eR]using this
  ·exact hr.elim
 ·exact hr.elim
theorem arj[af](hI:Inv w0 L0 N vs T a w L){o:Oper}{x:Operand}{d i:Nat}{ups:List (Nat×V)}{log:List Nat}(ho:o.op = .extract x i)(aB:o.dst=some d)(hd:d<N)
  (hr:(WJ vs d x i).ai T ups log):Step P o w0 L0 N vs (ah T ups) a w:=by
 cases x with
 | tmp s =>
  obtain⟨aG,rfl,hr⟩:=hr;dsimp only at hr;have bL:=hI.aY d;generalize KG:T.getD d .dead=vd at hr bL;split at hr
  ·rename_i r j n t y;split at hr
   ·rename_i hc;obtain⟨rfl,rfl,s9,hn,alX⟩:=hc;obtain⟨rfl,_⟩:=hr;obtain⟨h0,dy,u,cs,h1,h2,h3,h4⟩:=bL;have aP:(execOp a.eval o).run P w = .ok (.value u) w:=by
     have:a.eval (.tmp r) = .tuple dy:=h1;simp[execOp,ho,this,Instr.extract,h2]
    have hT:∀z,(ah T [(d,V.d none n t y)]).getD z .dead=if z=d/\d<T.length then V.d none n t y else T.getD z .dead:=λz=>aH _ _ _ _ _
    have qf:d<T.length:=by rw[hI.len];exact hd
    refine Step.value aB aP (Inv.upd (λz=>z=d) hI (by simp[Act.put,hI.size]) (by rw[cH,hI.len]) hI.dR hI.fr hI.free hI.inj ?_ (λ_ _ _ _=>⟨rfl,rfl⟩) ?_ ?_ ?_ ?_)
    ·intro k z q hk;rw[hT];split
     ·simp[V.aM,hn,alX]
     ·exact hI.owner k z q hk
    ·intro z hz;refine⟨by rw[hT,if_neg (λe=>hz e.1)],?_⟩;show (a.tmps.setIfInBounds d _).getD z undef=_;rw[ed,if_neg (λe=>hz e.1)]
    ·intro z r' ag;rw[hT]at ag;split at ag
     ·simp[V.on,V.root]at ag
     ·exact hI.roots z r' ag
    ·intro z r' hz ag mq;have bC:r'≠d:=by
      rintro rfl
      have:=hI.roots z _ ag;rw[List.contains_iff_mem.2 this]at s9;cases s9
     refine⟨by rw[hT,if_neg (λe=>bC e.1)],?_⟩;show (a.tmps.setIfInBounds d _).getD r' undef=_;rw[ed,if_neg (λe=>bC e.1)]
    ·intro z hz;subst hz;rw[hT,if_pos ⟨rfl,qf⟩];have:(a.put (some z) u).tmps.getD z undef=u:=by
      show (a.tmps.setIfInBounds z _).getD z undef=_;rw[ed,if_pos ⟨rfl,by rw[hI.size];exact hd⟩]
     rw[this];exact⟨by simp,cs,h3,h4⟩
   ·exact hr.elim
  ·obtain⟨hid,log2,rfl,hr⟩:=hr;dsimp only at hr;have hs:=hI.aY s;generalize hv:T.getD s .dead=v at hr hs;split at hr
   ·rename_i l;split at hr
    ·rename_i sz n t y hl;split at hr
     ·rename_i hn;obtain⟨rfl,_⟩:=hr;obtain⟨dy,h1,h2⟩:=hs;obtain⟨o',u,cs,e1,e2,e3⟩:=ab0 h2 hl;have e1:dy[i]?=some u:=by simpa using e1
      have aP:(execOp a.eval o).run P w = .ok (.value u) w:=by
       have:a.eval (.tmp s) = .tuple dy:=h1;simp[execOp,ho,this,Instr.extract,e1]
      have cm:aL P o vs T a w L d (.d none n t y):=aL.still hI aP (λ_=>rfl) ⟨by simp,cs,e2,Own.bA hn e3 hn⟩;intro K Q hK;exact aL.inv hI hd (by rw[KG];exact hid) aB cm hK
     ·exact hr.elim
    ·exact hr.elim
   ·exact hr.elim
 | const c=>exact hr.elim
 | func f=>exact hr.elim
 | global g=>exact hr.elim
end
def jH(r s:Nat)(v:V):Nat->List V->List (Nat×V)
 | _,[]=>[]
 | i,u::l=>cond (i==s) ((i,v)::jH r s v (i+1) l) (cond (i==r||u.on r) ((i,.dead)::jH r s v (i+1) l) (jH r s v (i+1) l))
def xT(r s:Nat):Nat->List V->Bool
 | _,[]=>true
 | i,u::l=>(i==s||i==r || !(u.on r&&u.aM))&&xT r s (i+1) l
def uj(N:Nat):List Nat->M (List (Nat×V))->M (List (Nat×V))
 | [],m=>m
 | s::l,m=>.get s λv=>match v with
  | .view r [] _=>.get r λu=>match u with
   | .d none n t x =>
    if n≠0/\t.depth≠0/\s<N/\s≠r then
     (allM 0 N).bind λTs=>.bn (xT r s 0 Ts) (((uj N l m).oc (ah Ts (jH r s (.d none n t x) 0 Ts))).bind λups=>.ret (jH r s (.d none n t x) 0 Ts++ups))
    else uj N l m
   | _=>uj N l m
  | _=>uj N l m
section
variable{P:Program}{C:Ctx}{w w' w0:World}{S S':Nat->Prop}{L L' L0:Nat->aj}{s N:Nat}{vs:List Nat}{T T':List V}{tm tm':Array Value}{a:Act}
theorem ub{r s:Nat}{v:V}:{i:Nat}->{l:List V}->(z:Nat)->(u:V)->((z,u)∈jH r s v i l↔i<=z/\z<i+l.length/\((z=s/\u=v)\/(z≠s/\u = .dead/\(z=r\/(l.getD (z - i) .dead).on r=true))))
 | i,[],z,u=>by simp[jH];omega
 | i,u0::l,z,u=>by
  have ih:=ub (r:=r) (s:=s) (v:=v) (i:=i+1) (l:=l) z u;have eC:i+1<=z->(u0::l).getD (z - i) .dead=l.getD (z - (i+1)) .dead:=λh=>by
   rw[show z - i=(z - (i+1))+1 by omega,List.getD_cons_succ]
  have Ku:(z,u)∈jH r s v (i+1) l->i<=z/\z<i+(u0::l).length/\((z=s/\u=v)\/(z≠s/\u = .dead/\(z=r\/((u0::l).getD (z - i) .dead).on r=true))):=by
   intro h;obtain⟨h1,h2,h3⟩:=ih.1 h;rw[eC h1];exact⟨by omega,by simp only[List.length_cons];omega,h3⟩
  have sT:z≠i->i<=z/\z<i+(u0::l).length/\((z=s/\u=v)\/(z≠s/\u = .dead/\(z=r\/((u0::l).getD (z - i) .dead).on r=true)))->(z,u)∈jH r s v (i+1) l:=by
   rintro hz ⟨h1,h2,h3⟩
   simp only[List.length_cons]at h2;rw[eC (by omega)]at h3;exact ih.2 ⟨by omega,by omega,h3⟩
  simp only[jH];cases hc:(i==s)with
  | true =>
   have hi:i=s:=by simpa using hc
   simp only[cond_true,List.mem_cons,Prod.mk.injEq];constructor
   ·rintro (⟨rfl,rfl⟩|h)
    ·exact⟨Nat.le_refl _,by simp,.inl ⟨hi,rfl⟩⟩
    ·exact Ku h
   ·intro h;by_cases hz:z=i
    ·obtain⟨_,_,h|h⟩:=h
     ·exact .inl ⟨hz,h.2⟩
     ·exact absurd (hz.trans hi) h.1
    ·exact .inr (sT hz h)
  | false =>
   have hi:i≠s:=by simpa using hc
   simp only[cond_false];cases dL:(i==r||u0.on r)with
   | true =>
    simp only[cond_true,List.mem_cons,Prod.mk.injEq];constructor
    ·rintro (⟨rfl,rfl⟩|h)
     ·refine⟨Nat.le_refl _,by simp,.inr ⟨hi,rfl,?_⟩⟩;rw[Nat.sub_self,List.getD_cons_zero];simpa using dL
     ·exact Ku h
    ·intro h;by_cases hz:z=i
     ·obtain⟨_,_,h|h⟩:=h
      ·exact absurd (hz.symm.trans h.1) hi
      ·exact .inl ⟨hz,h.2.1⟩
     ·exact .inr (sT hz h)
   | false =>
    simp only[cond_false];constructor
    ·exact Ku
    ·intro h;by_cases hz:z=i
     ·exfalso;obtain⟨_,_,h|h⟩:=h
      ·exact hi (hz.symm.trans h.1)
      ·simp only[Bool.or_eq_false_iff,beq_eq_false_iff_ne]at dL;subst hz;rw[Nat.sub_self,List.getD_cons_zero]at h;rcases h.2.2 with h|h
       ·exact dL.1 h
       ·rw[dL.2]at h;cases h
     ·exact sT hz h
theorem arB[af](hl:T.length=N){r s:Nat}{v:V}(hs:s<N)(z:Nat):(ah T (jH r s v 0 T)).getD z .dead=if z=s then v else if z=r\/(T.getD z .dead).on r=true then .dead else T.getD z .dead:=by
 split
 ·rename_i hz;subst hz;exact iK (by rw[hl];exact hs) (List.mem_map.2 ⟨(z,v),(ub z v).2 ⟨Nat.zero_le _,by rw[Nat.zero_add,hl];exact hs,.inl ⟨rfl,rfl⟩⟩,rfl⟩) (λu hu=>by
   rcases ((ub z u).1 hu).2.2 with h|h
   ·exact h.2
   ·exact absurd rfl h.1)
 ·rename_i hz;split
  ·rename_i hc;by_cases pe:z<N
   ·exact iK (by rw[hl];exact pe) (List.mem_map.2 ⟨(z,.dead),(ub z .dead).2 ⟨Nat.zero_le _,by rw[Nat.zero_add,hl];exact pe,.inr ⟨hz,rfl,hc⟩⟩,rfl⟩) (λu hu=>by
     rcases ((ub z u).1 hu).2.2 with h|h
     ·exact absurd h.1 hz
     ·exact h.2.1)
   ·exact eJ (by rw[cH,hl];omega)
  ·rename_i hc;refine fg _ _ _ (λhm=>?_);obtain⟨u,hu,he⟩:=List.mem_map.1 hm;subst he;rcases ((ub u.1 u.2).1 hu).2.2 with h|h
   ·exact hz h.1
   ·exact hc h.2.2
theorem abX{r s:Nat}:{i:Nat}->{l:List V}->xT r s i l=true->∀z,i+z≠s->i+z≠r->(l.getD z .dead).on r=true->(l.getD z .dead).aM=false
 | _,[],_,z,_,_,h=>by simp[V.on,V.root]at h
 | i,u::l,h,z,hs,hr,hc=>by
  simp only[xT,Bool.and_eq_true,Bool.or_eq_true,Bool.not_eq_true',beq_iff_eq]at h;cases z with
  | zero =>
   simp only[List.getD_cons_zero]at hc ⊢;rcases h.1 with h1|h1
   ·rcases h1 with h1|h1
    ·exact absurd h1 (by simpa using hs)
    ·exact absurd h1 (by simpa using hr)
   ·rw[hc,Bool.true_and]at h1;exact h1
  | succ z =>
   simp only[List.getD_cons_succ]at hc ⊢;exact abX h.2 z (by omega) (by omega) hc
theorem Inv.arD[af](hI:Inv w0 L0 N vs T a w L){s r n:Nat}{t t':Ty}{x:t.den}(hs:T.getD s .dead = .view r [] t')(hr:T.getD r .dead = .d none n t x)(hn:n≠0)(hd:t.depth≠0)(b9:s<N)(bu:s≠r)
  (aC:xT r s 0 T=true):∃L',Inv w0 L0 N vs (ah T (jH r s (.d none n t x) 0 T)) a w L':=by
 let kp:Nat->V->Bool:=λz v=>z != s&&z != r&&v.on r;have bw:=Inv.apb hI (kp:=kp) (by
  unfold Z2;rw[List.all_eq_true];intro b hb;obtain⟨i,hi⟩:=List.mem_iff_getElem?.1 hb;simp only[List.getElem?_mapIdx,Option.map_eq_some_iff]at hi;obtain⟨v,hv,rfl⟩:=hi;have lb:T.getD i .dead=v:=by simp[List.getD_eq_getElem?_getD,hv]
  simp only[id_eq,Bool.or_eq_true];cases cq:v.root with
  | none=>exact .inr rfl
  | some q =>
   dsimp only;cases hk:kp q (T.getD q .dead)with
   | false=>exact .inr rfl
   | true =>
    right;simp only[kp,Bool.and_eq_true,bne_iff_ne]at hk;have:=abX aC q (by simpa using hk.1.1) (by simpa using hk.1.2) hk.2;rw[this];rfl)
 obtain⟨L1,bw⟩:=bw;have hg:∀z,(kA kp T).getD z .dead=if kp z (T.getD z .dead)=true then .dead else T.getD z .dead:=Xh kp T
 have lk:(kA kp T).getD s .dead = .view r [] t':=by rw[hg,if_neg (by simp[kp]),hs]
 have mz:(kA kp T).getD r .dead = .d none n t x:=by rw[hg,if_neg (by simp[kp]),hr]
 have cB:oa r s (kA kp T)=true:=by
  unfold oa;rw[List.all_eq_true];intro b hb;obtain⟨i,hi⟩:=List.mem_iff_getElem?.1 hb;simp only[List.getElem?_mapIdx,Option.map_eq_some_iff]at hi;obtain⟨v,hv,rfl⟩:=hi;have lb:(kA kp T).getD i .dead=v:=by simp[List.getD_eq_getElem?_getD,hv]
  simp only[id_eq,Bool.or_eq_true,beq_iff_eq,bne_iff_ne];by_cases o6:i=s
  ·exact .inl o6
  ·right;intro cq;rw[hg]at lb;split at lb
   ·subst lb;simp[V.root]at cq
   ·rename_i hk;by_cases XV:i=r
    ·subst XV;rw[hr]at lb;subst lb;simp[V.root]at cq
    ·apply hk;rw[lb];simp[kp,o6,XV,V.on,cq]
 have KB:t'=t:=by
  have bd:=bw.aY s;rw[lk]at bd;obtain⟨cF,hh⟩:=bd;rcases hh with⟨_,_,l,n',x',h3,_⟩|⟨_,_,_,h,_⟩
  ·rw[mz]at h3;injection h3 with _ _ h3 _;exact h3.symm
  ·rw[mz]at h;simp[V.dG]at h
 obtain⟨L2,hI2⟩:=Inv.take bw (n:=n) (t:=t) (x:=x) (p:=[]) (log:=[]) (s:=s) (r:=r) (by rw[lk,KB]) b9 (by rw[mz];exact⟨rfl,rfl⟩) hn hd cB
 ·refine⟨L2,?_⟩;have iq:(kA kp T).length=N:=bw.len;have:((kA kp T).set r .dead).set s (.d none n t x)=ah T (jH r s (.d none n t x) 0 T):=by
   refine Dv (by rw[List.length_set,List.length_set,iq,cH,hI.len]) (λz=>?_);rw[arB hI.len b9,aH,aH,hg];by_cases hz:z=s
   ·subst hz;rw[if_pos ⟨rfl,by rw[List.length_set,iq];exact b9⟩,if_pos rfl]
   ·rw[if_neg (λe=>hz e.1),if_neg hz];by_cases dN:z=r
    ·subst dN;have pe:z<(kA kp T).length:=by
      apply Classical.byContradiction;intro mg;rw[eJ (by rw[hI.len];rw[iq]at mg;omega)]at hr;cases hr
     rw[if_pos ⟨rfl,pe⟩,if_pos (.inl rfl)]
    ·rw[if_neg (λe=>dN e.1)];by_cases ag:(T.getD z .dead).on r=true
     ·have hk:kp z (T.getD z .dead)=true:=by
       show (z != s&&z != r&&(T.getD z .dead).on r)=true;rw[ag];simp[hz,dN]
      rw[if_pos hk,if_pos (.inr ag)]
     ·have hk:¬kp z (T.getD z .dead)=true:=by
       show ¬(z != s&&z != r&&(T.getD z .dead).on r)=true;rw[Bool.not_eq_true]at ag;rw[ag];simp
      rw[if_neg hk,if_neg (λh=>h.elim dN ag)]
  rw[<-this];exact hI2
theorem xZ[af]{w:World}{a:Act}{m:M (List (Nat×V))}:{ss:List Nat}->{T:List V}->{L:Nat->aj}->{ups:List (Nat×V)}->{log:List Nat}->Inv w0 L0 N vs T a w L->(uj N ss m).ai T ups log ->
  ∃T1 L1 bH log2,Inv w0 L0 N vs T1 a w L1/\m.ai T1 bH log2/\ah T ups=ah T1 bH
 | [],T,L,ups,log,hI,h=>⟨T,L,ups,log,hI,h,rfl⟩
 | s::l,T,L,ups,log,hI,h=>by
  obtain⟨eW,rfl,h⟩:=h;dsimp only at h;generalize bf:T.getD s .dead=v at h;split at h
  ·rename_i r t';obtain⟨log2,rfl,h⟩:=h;dsimp only at h;generalize xc:T.getD r .dead=u at h;split at h
   ·rename_i n t x;split at h
    ·rename_i hc;obtain⟨hn,hd,b9,bu⟩:=hc;obtain⟨Ts,l1,l2,rfl,dS,hk,h⟩:=M.aq h;have bI:Ts=T:=by rw[lT dS (by rw[Nat.zero_add,hI.len])];rfl
     subst bI;obtain⟨bH,l3,l4,rfl,h1,h2⟩:=M.aq h;obtain⟨rfl,_⟩:=h2;obtain⟨aG,h1⟩:=M.ph h1;obtain⟨L',iM⟩:=Inv.arD hI bf xc hn hd b9 bu hk;obtain⟨T1,L1,jJ,fQ,k1,k2,k3⟩:=xZ iM h1;exact⟨T1,L1,jJ,fQ,k1,k2,by rw[lE];exact k3⟩
    ·exact xZ hI h
   ·exact xZ hI h
  ·exact xZ hI h
end
def WK(C:Ctx)(X:TypeId)(f t:Nat):M V :=
 .ask (Ct t) (match pP C X with
  | some ta=>match bB f ta with
   | some (off,t1)=>.ret (.ptr t [.a7 f off] t1)
   | none=>.fail
  | none=>.fail)
def aa9(t:Nat)(ty:Ty):M V:=.ask (Ct t) (.ret (.ptr t [] ty))
section
variable{P:Program}{C:Ctx}{w w' w0:World}{S S':Nat->Prop}{L L' L0:Nat->aj}{s N:Nat}{vs:List Nat}{T T':List V}{tm tm':Array Value}{a:Act}
theorem Wa{v:V}{c:Value}(hs:aD L T tm s v w c)(hb:v.fD=true):∃g,c = .pointer (some ⟨g,0,none⟩)/\L g = .own s []:=by
 cases v with
 | box l n t x =>
  obtain⟨_,g,cur,e,h1,h2,_⟩:=hs;exact⟨g,h1,h2⟩
 | hole u p =>
  cases u with
  | box l n t x =>
   obtain⟨_,_,_,_,_,_,_,h⟩:=hs;obtain⟨_,g,cur,e,h1,h2,_⟩:=h;exact⟨g,h1,h2⟩
  | _=>simp[V.fD]at hb
 | bP k n t x =>
  unfold V.fD at hb;split at hb
  ·rename_i he;cases he
  ·rename_i he;cases he
  ·rename_i he;cases he;cases t with
   | agg t =>
    obtain⟨g,cur,e,h1,h2,_⟩:=hs;exact⟨g,h1,h2⟩
   | _=>exact hs.elim
  ·cases hb
 | _=>simp[V.fD]at hb
theorem ap5[af](hI:Inv w0 L0 N vs T a w L)(hC:bD P C){o:Oper}{X:TypeId}{t f d:Nat}{v:V}{log:List Nat}(ho:o.op = .fieldAddr X (.tmp t) f)
  (h:(WK C X f t).ai T v log) (bf:∀r,v.on r=true->r∈vs):aL P o vs T a w L d v:=by
 obtain⟨⟨hq,_⟩,aG,rfl,h⟩:=h;obtain⟨g,h1,h2⟩:=Wa (hI.aY t) (V1 hq);split at h
 ·rename_i ta kr;split at h
  ·rename_i off t1 hc;obtain⟨rfl,_⟩:=h;have fh:a.eval (.tmp t)=_:=h1;refine aL.ptr hI (g:=g) ?_ h2 bf;simp[execOp,ho,fh,abo hC kr hc,node]
  ·exact h.elim
 ·exact h.elim
theorem aqe[af](hI:Inv w0 L0 N vs T a w L){o:Oper}{t d:Nat}{ty:Ty}{v:V}{log:List Nat}(ho:o.op = .move (.tmp t))
  (h:(aa9 t ty).ai T v log) (bf:∀r,v.on r=true->r∈vs):aL P o vs T a w L d v:=by
 obtain⟨⟨hq,_⟩,aG,rfl,h⟩:=h;obtain⟨g,h1,h2⟩:=Wa (hI.aY t) (V1 hq);obtain⟨rfl,_⟩:=h;have fh:a.eval (.tmp t)=_:=h1;refine aL.ptr hI (g:=g) ?_ h2 bf;simp[execOp,ho,fh,node]
def mS(r:Nat)(q:List Nat)(o s:Nat):Nat->List Nat->aj:=λz q2 =>
 if z=r then match cut q q2 with
  | some (y::rest)=>if y=o then .own s (0::rest)else .own r q2
  | _=>.own r q2
 else if z=s then .other else .own z q2
theorem ud[af]{r s:Nat}{q:List Nat}{o:Nat}{z:Nat}{q2:List Nat}{z':Nat}{q3:List Nat}(h:mS r q o s z q2 = .own z' q3):
  (z=r/\∃rest,q2=q++o::rest/\z'=s/\q3=0::rest)\/(z=r/\z'=r/\q3=q2/\∀rest,q2≠q++o::rest)\/(z≠r/\z≠s/\z'=z/\q3=q2):=by
 unfold mS at h;split at h
 ·rename_i hz;split at h
  ·rename_i y rest hc;split at h
   ·rename_i hy;injection h with h1 h2;subst hy;exact .inl ⟨hz,rest,oJ hc,h1.symm,h2.symm⟩
   ·rename_i hy;injection h with h1 h2;refine .inr (.inl ⟨hz,h1.symm,h2.symm,λfJ he=>?_⟩);rw[he,nw]at hc;simp only[Option.some.injEq,List.cons.injEq]at hc;exact hy hc.1.symm
  ·rename_i cB;injection h with h1 h2;refine .inr (.inl ⟨hz,h1.symm,h2.symm,λfJ he=>?_⟩);exact cB o fJ (by rw[he,nw])
 ·rename_i hz;split at h
  ·cases h
  ·rename_i hs;injection h with h1 h2;exact .inr (.inr ⟨hz,hs,h1.symm,h2.symm⟩)
theorem arG[af]{r s:Nat}{q:List Nat}{o:Nat}{X:Nat->Prop}(hr:X r)(hs:X s)(iT:r≠s):fL (mS r q o s) X:=by
 refine⟨λz q2 hX=>?_,λz q2 z' q3 hX h=>?_,λz q2 z2 q3 z' q4 h1 h2=>?_,λz q2=>?_⟩
 ·unfold mS;rw[if_neg (λe:z=r=>hX (e▸hr)),if_neg (λe:z=s=>hX (e▸hs))]
 ·rcases ud h with⟨_,_,_,rfl,_⟩|⟨_,rfl,_⟩|⟨_,_,rfl,_⟩
  ·exact hs
  ·exact hr
  ·exact hX
 ·rcases ud h1 with⟨rfl,rest,rfl,rfl,rfl⟩|⟨rfl,rfl,rfl,hn⟩|⟨g1,g2,rfl,rfl⟩
  ·rcases ud h2 with⟨rfl,fJ,rfl,_,he⟩|⟨rfl,he,_⟩|⟨_,g2,he,_⟩
   ·injection he with _ he;exact⟨rfl,by rw[he]⟩
   ·exact absurd he.symm iT
   ·exact absurd he.symm g2
  ·rcases ud h2 with⟨_,fJ,_,he,_⟩|⟨rfl,_,he,_⟩|⟨g1,_,he,_⟩
   ·exact absurd he iT
   ·exact⟨rfl,he⟩
   ·exact absurd he.symm g1
  ·rcases ud h2 with⟨_,fJ,_,he,_⟩|⟨_,he,_⟩|⟨_,_,h3,h4⟩
   ·exact absurd he g2
   ·exact absurd he g1
   ·exact⟨h3,h4⟩
 ·unfold mS
  repeat' split
  all_goals simp
theorem arF[af]{r s:Nat}{q:List Nat}{o:Nat}{rest:List Nat}:mS r q o s r (q++o::rest) = .own s (0::rest):=by
 unfold mS;rw[if_pos rfl,nw];simp
theorem Eb[af]{r s:Nat}{q:List Nat}{o:Nat}{q2:List Nat}(h:∀rest,q2≠q++o::rest):mS r q o s r q2 = .own r q2:=by
 unfold mS;rw[if_pos rfl];split
 ·rename_i y rest hc;split
  ·rename_i hy;subst hy;exact absurd (oJ hc) (h rest)
  ·rfl
 ·rfl
theorem L6{g o:Nat}{cur:Array Value}{e:TypeId}{v:Value}(h:w.heap[g]?=some (.cells cur e (0,0))):(w.setCell ⟨g,o,none⟩ v).heap[g]?=some (.cells (cur.setIfInBounds o v) e (0,0)):=by
 simp[World.setCell,Array.getElem?_modify,h]
theorem tU{g o k:Nat}{v:Value}(h:k≠g):(w.setCell ⟨g,o,none⟩ v).heap[k]?=w.heap[k]?:=by
 simp only[World.setCell,Array.getElem?_modify];rw[if_neg (Ne.symm h)]
theorem apK{p:List St}{k n:Nat}{t:Ty}{x:t.den}{l:Option Nat}{z:D}{log:List Nat}(h:(qM p k n t x).ai T (l,z) log):l=none:=by
 unfold qM at h;split at h
 ·split at h
  ·obtain⟨_,y,_,h⟩:=h;obtain⟨_,_,_,_,_,h⟩:=M.aq h;exact (Prod.mk.inj h.1).1
  ·exact h.elim
 ·split at h
  ·split at h
   ·obtain⟨_,_,_,_,_,h⟩:=M.aq h;exact (Prod.mk.inj h.1).1
   ·exact h.elim
  ·exact h.elim
 ·exact h.elim
theorem abl{p:List St}{u:V}{l:Option Nat}{z:D}{log:List Nat}(h:(dI p u).ai T (l,z) log):u.root=l:=by
 cases u with
 | box l0 n t x =>
  obtain⟨zz,l1,l2,rfl,h1,h2⟩:=M.aq h;obtain⟨h2,_⟩:=h2;cases h2;rfl
 | d l0 n t x =>
  simp only[dI]at h;split at h
  ·obtain⟨zz,l1,l2,rfl,h1,h2⟩:=M.aq h;obtain⟨h2,_⟩:=h2;cases h2;rfl
  ·exact h.elim
 | dead=>exact h.elim
 | bF _=>exact h.elim
 | rp _ _ _=>exact h.elim
 | ptr _ _ _=>exact h.elim
 | view _ _ _=>exact h.elim
 | hole _ _=>exact h.elim
 | part _ _ _ _ _=>exact h.elim
 | bP _ _ _ _=>exact (apK h).symm
 | same _ _=>exact h.elim
theorem Inv.arC[af](hI:Inv w0 L0 N vs T a w L){s r n:Nat}{p:List St}{u u':V}{e:TypeId}{te:Ty}{x:List te.den}{log log2:List Nat}(hs:T.getD s .dead = .view r p (.slice e te))(hr:T.getD r .dead=u)(hu:u.fD=true)(b9:s<N)(dw:r<N)
  (hz:(dI p u).ai T (none,⟨n,.slice e te,x⟩) log) (hm:(gf p u (.slice e te) []).ai T u' log2) (hn:n≠0) (cQ:∀z,z≠s->(T.getD z .dead).eI r=false) :
  ∃L',Inv w0 L0 N vs ((T.set r (.hole u' p)).set s (.d none n (.slice e te) x)) a w L':=by
 have cq:=abl hz;obtain⟨mB,wX,wz,C9⟩:=Lo hm;have bu:=hI.aY s;rw[hs]at bu;have iT:r≠s:=by
  rintro rfl
  rw[hs]at hr;subst hr;simp[V.fD]at hu
 have hzv:(rb p (T.getD r .dead)).ai T (none,⟨n,.slice e te,x⟩) log:=by
  rw[hr];cases u with
  | box l0 n0 t0 x0=>exact hz
  | hole _ _=>exact hz
  | bP _ _ _ _=>exact hz
  | _=>simp[V.fD]at hu
 obtain⟨cs,hf,bz,_,cF⟩:=Eh hI bu hzv;have bd:=hI.aY r;rw[hr]at bd;obtain⟨hb,_,_,ix,mh⟩:=lC hz bd;obtain⟨g,cur,e',k1,k2,k3,k4⟩:=hb;have bI:((T.set r (.hole u' p)).set s (.d none n (.slice e te) x)).getD s .dead = .d none n (.slice e te) x:=by
  rw[aH,if_pos ⟨rfl,by simp[hI.len,b9]⟩]
 have bE:((T.set r (.hole u' p)).set s (.d none n (.slice e te) x)).getD r .dead = .hole u' p:=by
  rw[aH,if_neg (λh=>iT h.1),aH,if_pos ⟨rfl,by rw[hI.len];exact dw⟩]
 have br:∀z,z≠r->z≠s->((T.set r (.hole u' p)).set s (.d none n (.slice e te) x)).getD z .dead=T.getD z .dead:=by
  intro z h1 h2;rw[aH,if_neg (λh=>h2 h.1),aH,if_neg (λh=>h1 h.1)]
 have nS:∀z,z≠s->(T.getD z .dead).on r=true->∃p' t',T.getD z .dead = .ptr r p' t'/\shallow p'=true:=by
  intro z iz ag;have hb:=cQ z iz;unfold V.eI at hb;rw[ag,Bool.true_and]at hb;generalize T.getD z .dead=v at hb ag;cases v with
  | ptr r2 p2 t2 =>
   have:r2=r:=by simpa[V.on,V.root]using ag
   subst this;exact⟨p2,t2,rfl,by simpa using hb⟩
  | _=>simp at hb
 refine⟨_,Inv.gY (f:=mS r (node [] 0 p).1 (node [] 0 p).2 s) (X:=λz=>z=r\/z=s\/(T.getD z .dead).on r=true) (nl:=λ_=>.free) hI (arG (.inl rfl) (.inr (.inl rfl)) iT) (Wd.refl hI _) (λ_ _ _ _ _ h=>by cases h) hI.size (by simp[hI.len]) hI.dR ?_ ?_ ?_ ?_ ?_⟩
 ·intro k z q bW h;by_cases h1:z=r
  ·subst h1;rw[bE];rfl
  ·by_cases h2:z=s
   ·subst h2;rw[bI];simp[V.aM,hn,Ty.depth]
   ·rw[br z h1 h2];unfold aU at h;split at h
    ·obtain⟨s0,q0,e0,f0⟩:=eZ h;rcases ud f0 with⟨_,_,_,h3,_⟩|⟨_,h3,_⟩|⟨_,_,h3,h4⟩
     ·exact absurd h3 h2
     ·exact absurd h3 h1
     ·subst h3;exact hI.owner k _ _ e0
    ·cases h
 ·intro z r' bW ag aZ;have bW:=not_or.1 bW;have fk:=not_or.1 bW.2;rcases aZ with rfl|rfl|aZ
  ·exact absurd ag fk.2
  ·rw[hs];rfl
  ·by_cases h2:r'=s
   ·subst h2;rw[hs];rfl
   ·obtain⟨p',t',he,_⟩:=nS r' h2 aZ;rw[he];rfl
 ·intro z bW;have bW:=not_or.1 bW;have fk:=not_or.1 bW.2;exact⟨br z bW.1 fk.1,rfl⟩
 ·intro z r' bW ag;by_cases h1:z=r
  ·subst h1;rw[bE]at ag;simp[V.on,V.root,mB,cq]at ag
  ·by_cases h2:z=s
   ·subst h2;rw[bI]at ag;simp[V.on,V.root]at ag
   ·rw[br z h1 h2]at ag;exact hI.roots z r' ag
 ·intro z bW;by_cases h1:z=r
  ·subst h1;rw[bE];refine⟨by rw[mB,cq],g,cur,e',?_,k2,by simp only[Ty.sz]at k3;omega,?_⟩
   ·rw[c8 hI (by rw[k1];simp),k1];exact Eb (λrest h=>by have:=congrArg List.length h;simp at this)
   ·refine Ln (T2:=_) (cur:=cur) (e':=e') (g':=g) (cur':=cur.setIfInBounds (node [] 0 p).2 (.slice none 0 0)) bd hz hm (λr' aZ=>by rw[cq]at aZ;cases aZ) ?_ ?_
    ·refine⟨λk hk=>?_,λk q2 hk hq KD=>?_,k1,?_,k2,L6 k2,by simp,λi hi=>?_,λk hk=>hI.inj k g z _ hk k1⟩
     ·rw[cq]at hk ⊢;rcases hk with hk|⟨_,_,hk,_⟩
      ·exact⟨.inl (eD hI hk),tU (by rintro rfl;rw[k1]at hk;cases hk)⟩
      ·cases hk
     ·refine⟨?_,tU (by rintro rfl;rw[k1]at hk;injection hk with _ hk;exact hq hk.symm)⟩;rw[c8 hI (by rw[hk];simp),hk];exact Eb (λrest h=>KD ⟨0,rest,by simp[Ty.sz],by simpa using h⟩)
     ·rw[c8 hI (by rw[k1];simp),k1];exact Eb (λrest h=>by have:=congrArg List.length h;simp at this)
     ·rw[Array.getElem?_setIfInBounds,if_neg (by simp only[Ty.sz]at hi;omega)]
    ·have hc:((cur.setIfInBounds (node [] 0 p).2 (.slice none 0 0)).toList.drop (node [] 0 p).2).take (Ty.slice e te).sz=[.slice none 0 0]:=by
      simp only[Ty.sz]at k3 ⊢;apply List.ext_getElem?;intro i;rw[List.getElem?_take];split
      ·obtain rfl:i=0:=by omega
       rw[List.getElem?_drop,Nat.add_zero,Array.getElem?_toList,Array.getElem?_setIfInBounds,if_pos rfl,if_pos (by omega)];rfl
      ·exact (List.getElem?_eq_none (by simp;omega)).symm
     rw[hc];cases n with
     | zero=>exact absurd rfl hn
     | succ n=>simp only[Own];exact .inl (by constructor<;>first|trivial|rfl)
  ·by_cases h2:z=s
   ·subst h2;rw[bI];refine⟨by simp,cs,hf,?_⟩;refine Own.move (λk hk=>?_) (λk d rest hd hk=>⟨?_,rfl⟩) bz
    ·rcases hk with hk|⟨_,_,hk,_⟩
     ·exact⟨.inl (eD hI hk),rfl⟩
     ·cases hk
    ·simp only[Ty.sz]at hd;obtain rfl:d=0:=by omega
     rw[c8 hI (by rw[hk];simp),hk];simp only[eR,Nat.add_zero,Nat.zero_add,List.nil_append];exact arF
   ·rw[br z h1 h2];have ag:(T.getD z .dead).on r=true:=by
     rcases bW with h|h|h
     ·exact absurd h h1
     ·exact absurd h h2
     ·exact h
    obtain⟨p',t',he,eC⟩:=nS z h2 ag;have bq:=hI.aY z;rw[he]at bq ⊢;obtain⟨g2,j1,j2⟩:=bq;refine⟨g2,j1,?_⟩;rw[qV eC]at j2 ⊢;rw[c8 hI (by rw[j2];simp),j2];exact Eb (λrest h=>by have:=congrArg List.length h;simp at this)
end
def qY:List St->List St->Bool
 | [],[]=>true
 | .a7 i o::p,.a7 i' o'::p'=>i==i'&&o==o'&&qY p p'
 | .idx s i::p,.idx s' i'::p'=>s==s'&&i==i'&&qY p p'
 | _,_=>false
theorem Mj:{p p':List St}->qY p p'=true->p=p'
 | [],[],_=>rfl
 | .a7 i o::p,.a7 i' o'::p',h=>by
  simp only[qY,Bool.and_eq_true,beq_iff_eq]at h;rw[h.1.1,h.1.2,Mj h.2]
 | .idx s i::p,.idx s' i'::p',h=>by
  simp only[qY,Bool.and_eq_true,beq_iff_eq]at h;rw[h.1.1,h.1.2,Mj h.2]
 | [],.a7 _ _::_,h|[],.idx _ _::_,h | .a7 _ _::_,[],h | .idx _ _::_,[],h | .a7 _ _::_,.idx _ _::_,h | .idx _ _::_,.a7 _ _::_,h=>by simp[qY]at h
def JI(C:Ctx)(vs:List Nat)(N:Nat)(kids:List Nat)(X:TypeId)(r:Nat)(p:List St)(u:V)(p':List St)(x:Operand):M (List (Nat×V)):=
 match x with
 | .tmp s=>if qY p p'=true/\vs.contains s=false/\s≠r/\r<N then
   .get s λv=>match v with
   | .d none k (.slice e te) y=>(dI p u).bind λz =>
    if h:z.2.t = .slice e te then
     if C.ty X=some (.slice e te)/\(z.2.n<=k\/te.depth+1<=k)/\z.2.n≠0/\z.1=none/\u.fD=true then
      (gf p u (.slice e te) y).bind λu2=>iI false r s kids (.ret [(r,u2),(s,.dead)])
     else .fail
    else .fail
   | _=>.fail
  else .fail
 | _=>.fail
def M.calm{α:Type}:M α->Prop
 | .ret _=>True
 | .fail=>True
 | .get _ _=>False
 | .cM _ _ k=>∀x,(k x).calm
 | .bn _ k=>k.calm
 | .ask _ _=>False
 | .ite _ x y=>x.calm/\y.calm
theorem sB{α:Type}{T T':List V}:{m:M α}->{a:α}->{log:List Nat}->m.calm->m.ai T a log->m.ai T' a log
 | .ret _,_,_,_,h=>h
 | .fail,_,_,_,h=>h.elim
 | .get _ _,_,_,c,_=>c.elim
 | .cM _ _ k,a,log,c,⟨x,hx,h⟩=>⟨x,hx,sB (c x) h⟩
 | .bn _ k,a,log,c,⟨hb,h⟩=>⟨hb,sB (m:=k) c h⟩
 | .ask _ _,_,_,c,_=>c.elim
 | .ite _ x y,a,log,c,h=>by
  rcases h with⟨hb,h⟩|⟨hb,h⟩
  ·exact .inl ⟨hb,sB (m:=x) c.1 h⟩
  ·exact .inr ⟨hb,sB (m:=y) c.2 h⟩
theorem jm{α β:Type}{f:α->M β}(hf:∀a,(f a).calm):{m:M α}->m.calm->(m.bind f).calm
 | .ret a,_=>hf a
 | .fail,_=>trivial
 | .get _ _,c=>c.elim
 | .cM _ _ k,c=>λx=>jm hf (c x)
 | .bn _ k,c=>jm (m:=k) hf c
 | .ask _ _,c=>c.elim
 | .ite _ x y,c=>⟨jm (m:=x) hf c.1,jm (m:=y) hf c.2⟩
theorem sM:(p:List St)->(n:Nat)->(t:Ty)->(x:t.den)->(aR p n t x).calm
 | [],_,_,_=>trivial
 | .a7 i off::p,n,.agg t,x=>by
  simp only[aR];split
  ·split
   ·exact sM _ _ _ _
   ·trivial
  ·trivial
 | .idx sz i::p,n+1,.slice _ t,x=>by
  simp only[aR];split
  ·exact λy=>sM _ _ _ _
  ·trivial
 | .idx _ _::p,0,.slice _ _,_=>by simp only[aR];trivial
 | .a7 _ _::p,_,.int _,_ | .a7 _ _::p,_,.bool,_ | .a7 _ _::p,_,.str,_ | .a7 _ _::p,_,.raw _,_ | .a7 _ _::p,_,.cap _ _,_ | .a7 _ _::p,_,.unit,_ | .a7 _ _::p,_,.pair _ _,_ | .a7 _ _::p,_,.slice _ _,_=>by simp only[aR];trivial
 | .idx _ _::p,_,.int _,_ | .idx _ _::p,_,.bool,_ | .idx _ _::p,_,.str,_ | .idx _ _::p,_,.raw _,_ | .idx _ _::p,_,.cap _ _,_ | .idx _ _::p,_,.unit,_ | .idx _ _::p,_,.pair _ _,_ | .idx _ _::p,_,.agg _,_=>by simp only[aR];trivial
theorem aax[af]{f:(t1:Ty)->t1.den->M t1.den}(hf:∀t1 x1,(f t1 x1).calm):(i:Nat)->(t:Ty)->(x:t.den)->(iZ i t x f).calm
 | 0,.pair _ _,x=>by simp only[iZ];refine jm ?_ (hf _ _);intro _;trivial
 | i+1,.pair _ b,x=>by simp only[iZ];refine jm ?_ (aax hf i b x.2);intro _;trivial
 | 0,.int _,x|0,.bool,x|0,.str,x|0,.raw _,x|0,.cap _ _,x|0,.unit,x|0,.agg _,x|0,.slice _ _,x=>by simp only[iZ];exact hf _ _
 | _+1,.int _,x|_+1,.bool,x|_+1,.str,x|_+1,.raw _,x|_+1,.cap _ _,x|_+1,.unit,x|_+1,.agg _,x|_+1,.slice _ _,x=>by simp only[iZ];trivial
theorem DG[af]:(p:List St)->(t:Ty)->(x:t.den)->(t':Ty)->(y:t'.den)->(fo p t x t' y).calm
 | [],t,x,t',y=>by
  simp only[fo];split<;>trivial
 | .a7 i off::p,.agg t,x,t',y=>by
  simp only[fo];split
  ·split
   ·exact aax (λt1 x1=>DG p t1 x1 t' y) _ _ _
   ·trivial
  ·trivial
 | .idx sz i::p,.slice _ t,x,t',y=>by
  simp only[fo];split
  ·intro z;refine jm ?_ (DG p t z t' y);intro _ _;trivial
  ·trivial
 | .a7 _ _::p,.int _,_,_,_ | .a7 _ _::p,.bool,_,_,_ | .a7 _ _::p,.str,_,_,_ | .a7 _ _::p,.raw _,_,_,_ | .a7 _ _::p,.cap _ _,_,_,_ | .a7 _ _::p,.unit,_,_,_ | .a7 _ _::p,.pair _ _,_,_,_ | .a7 _ _::p,.slice _ _,_,_,_=>by simp only[fo];trivial
 | .idx _ _::p,.int _,_,_,_ | .idx _ _::p,.bool,_,_,_ | .idx _ _::p,.str,_,_,_ | .idx _ _::p,.raw _,_,_,_ | .idx _ _::p,.cap _ _,_,_,_ | .idx _ _::p,.unit,_,_,_ | .idx _ _::p,.pair _ _,_,_,_ | .idx _ _::p,.agg _,_,_,_=>by simp only[fo];trivial
theorem apJ[af]{p:List St}{k n:Nat}{t:Ty}{x:t.den}:(qM p k n t x).calm:=by
 unfold qM;split
 ·split
  ·intro y;refine jm ?_ (sM _ _ _ _);intro _;trivial
  ·trivial
 ·split
  ·split
   ·refine jm ?_ (sM _ _ _ _);intro _;trivial
   ·trivial
  ·trivial
 ·trivial
theorem aqu[af]{p:List St}(u:V):(dI p u).calm:=by
 cases u with
 | box l n t x=>refine jm ?_ (sM _ _ _ _);intro _;trivial
 | d l n t x =>
  simp only[dI];split
  ·(refine jm ?_ (sM _ _ _ _);intro _;trivial)
  ·trivial
 | bP k n t x=>exact apJ
 | _=>trivial
theorem apv[af]{p:List St}{t:Ty}{y:t.den}(u:V):(gf p u t y).calm:=by
 cases u with
 | box l n t x=>refine jm ?_ (DG _ _ _ _ _);intro _;trivial
 | d l n t x =>
  simp only[gf];split
  ·(refine jm ?_ (DG _ _ _ _ _);intro _;trivial)
  ·trivial
 | _=>trivial
section
variable{P:Program}{C:Ctx}{w w' w0:World}{S S':Nat->Prop}{L L' L0:Nat->aj}{s N:Nat}{vs:List Nat}{T T':List V}{tm tm':Array Value}{a:Act}
theorem Inv.ghost[af](hI:Inv w0 L0 N vs T a w L){r:Nat}{p:List St}{u:V}(hr:T.getD r .dead = .hole u p)(hu:u.fD=true)(dw:r<N)(cQ:∀z,(T.getD z .dead).eI r=false\/(T.getD z .dead).on r=false):
  ∃g cur e,L g = .own r (node [] 0 p).1/\w.heap[g]?=some (.cells cur e (0,0))/\(node [] 0 p).2<cur.size/\u.root=none/\Inv w0 L0 N vs (T.set r u) a (w.setCell ⟨g,(node [] 0 p).2,none⟩ (.slice none 0 0)) L:=by
 have hs:=hI.aY r;rw[hr]at hs;obtain⟨h0,g,cur,e,h1,h2,h3,h4⟩:=hs;refine⟨g,cur,e,h1,h2,h3,h0,?_⟩;have hT:∀z,(T.set r u).getD z .dead=if z=r/\r<T.length then u else T.getD z .dead:=λz=>aH _ _ _ _ _
 have bE:(T.set r u).getD r .dead=u:=by rw[hT,if_pos ⟨rfl,by rw[hI.len];exact dw⟩]
 have bz:u.aM=true:=by cases u<;>simp[V.fD,V.aM]at hu ⊢
 have tf:∀k,L k ≠ .own r (node [] 0 p).1->(w.setCell ⟨g,(node [] 0 p).2,none⟩ (.slice none 0 0)).heap[k]?=w.heap[k]?:=λk hk=>tU (by rintro rfl;exact hk h1);refine Inv.upd (λz=>z=r\/(T.getD z .dead).on r=true) hI hI.size (by simp[hI.len]) hI.dR ?_ (λk hk=>hI.free k (by simpa[World.setCell]using hk)) hI.inj ?_ ?_ ?_ ?_ ?_ ?_
 ·refine⟨hI.fr.os,hI.fr.tape,hI.fr.output,by simpa[World.setCell]using hI.fr.size,hI.fr.drawn,λk hk h=>?_,hI.fr.ij⟩;obtain⟨e1,e2⟩:=hI.fr.aT k hk h;refine⟨e1,?_⟩;rw[tf k (by rw[e1];rcases h with h|h<;>rw[h]<;>simp),e2]
 ·intro k z q hk;rw[hT];split
  ·exact bz
  ·exact hI.owner k z q hk
 ·intro z hz k hk;refine⟨rfl,tf k (λhe=>?_)⟩;have hz:=not_or.1 hz;rcases hk with hk|⟨r',q,hk,aZ⟩
  ·rw[he]at hk;cases hk
  ·rw[he]at hk;injection hk with hk _;subst hk;rcases aZ with aZ|aZ
   ·exact hz.1 aZ.symm
   ·exact hz.2 aZ
 ·intro z hz;have hz:=not_or.1 hz;exact⟨by rw[hT,if_neg (λh=>hz.1 h.1)],rfl⟩
 ·intro z r' ag;rw[hT]at ag;split at ag
  ·simp[V.on,h0]at ag
  ·exact hI.roots z r' ag
 ·intro z r' hz ag _;have hz:=not_or.1 hz;refine⟨by rw[hT,if_neg (λh=>hz.2 (by rw[<-h.1];exact ag))],rfl⟩
 ·intro z hz;by_cases dN:z=r
  ·subst dN;rw[bE];exact aD.aT (L':=L) (T':=T.set z u) (tm':=a.tmps) (λk _=>⟨rfl,rfl⟩) (λr' aZ _=>by simp[V.on,h0]at aZ) h4
  ·have ag:(T.getD z .dead).on r=true:=hz.resolve_left dN;rw[hT,if_neg (λh=>dN h.1)];have hd:=(cQ z).resolve_right (by rw[ag];simp);unfold V.eI at hd;rw[ag,Bool.true_and]at hd;have bq:=hI.aY z;generalize T.getD z .dead=v at hd bq ag;cases v with
   | ptr r2 p2 t2=>exact bq
   | _=>simp at hd
theorem aqN[af]{g o:Nat}{cur:Array Value}{e:TypeId}{v c:Value}(hg:w.heap[g]?=some (.cells cur e (0,0)))(ho:o<cur.size):
  (w.setCell ⟨g,o,none⟩ v).setRow g (putCells (cur.setIfInBounds o v) o [c])=w.setRow g (putCells cur o [c]):=by
 have hp:putCells (cur.setIfInBounds o v) o [c]=putCells cur o [c]:=by
  apply Array.ext_getElem?;intro i;by_cases hi:i=o
  ·subst hi;have e1:=DV (cur:=cur.setIfInBounds i v) (o:=i) (cs:=[c]) (by simp;omega);have e2:=DV (cur:=cur) (o:=i) (cs:=[c]) (by simp;omega);have e3:=e1.trans e2.symm;have:=congrArg (λl=>l[0]?) e3;simpa[List.getElem?_take,List.getElem?_drop]using this
  ·rw[DW (by simp;omega) i (by simp;omega),DW (by simp;omega) i (by simp;omega),Array.getElem?_setIfInBounds,if_neg (Ne.symm hi)]
 have hh:((w.setCell ⟨g,o,none⟩ v).setRow g (putCells (cur.setIfInBounds o v) o [c])).heap=(w.setRow g (putCells cur o [c])).heap:=by
  rw[hp];apply Array.ext_getElem?;intro i;by_cases hi:i=g
  ·subst hi;rw[setRow_heap _ i _ _ _ _ (L6 hg),setRow_heap _ i _ _ _ _ hg]
  ·rw[setRow_other _ g i _ hi,setRow_other _ g i _ hi,tU hi]
 calc (w.setCell ⟨g,o,none⟩ v).setRow g (putCells (cur.setIfInBounds o v) o [c])
   = { w.setRow g (putCells cur o [c])with heap:=((w.setCell ⟨g,o,none⟩ v).setRow g (putCells (cur.setIfInBounds o v) o [c])).heap }:=rfl
  _={ w.setRow g (putCells cur o [c])with heap:=(w.setRow g (putCells cur o [c])).heap }:=by rw[hh]
  _=w.setRow g (putCells cur o [c]):=rfl
theorem ark[af](hI:Inv w0 L0 N vs T a w L)(hC:bD P C){o:Oper}{X:TypeId}{t r:Nat}{kids:List Nat}{p p':List St}{u:V}{x:Operand}{ups:List (Nat×V)}{log:List Nat}(ho:o.op = .store X (.tmp t) x)(aB:o.dst=none)
  (ht:addrOf t (T.getD t .dead)=some (r,p)) (cZ:∀r p,addrOf t (T.getD t .dead)=some (r,p)->∃g,a.eval (.tmp t) = .pointer (some ⟨g,(node [] 0 p).2,none⟩)/\L g = .own r (node [] 0 p).1)
  (hr:T.getD r .dead = .hole u p') (h:(JI C vs N kids X r p u p' x).ai T ups log):Step P o w0 L0 N vs (ah T ups) a w:=by
 cases x with
 | tmp s =>
  simp only[JI]at h;split at h
  ·rename_i hc;obtain⟨Kr,jz,bu,dw⟩:=hc;obtain rfl:=Mj Kr;obtain⟨eW,rfl,h⟩:=h;dsimp only at h;generalize bf:T.getD s .dead=v at h;split at h
   ·rename_i k e te y;obtain⟨⟨l,n',t',x'⟩,l1,l2,rfl,hz,h⟩:=M.aq h;dsimp only at h;split at h
    ·rename_i ht';subst ht';split at h
     ·rename_i wu;obtain⟨hX,lj,iS,rfl,Df⟩:=wu;obtain⟨u2,l3,l4,rfl,hm,h⟩:=M.aq h;obtain⟨cQ,log2,h⟩:=jV h;obtain⟨rfl,_⟩:=h;have XD:∀z,(T.getD z .dead).eI r=false\/(T.getD z .dead).on r=false:=by
       intro z;by_cases iz:z=s
       ·right;rw[iz,bf];rfl
       ·exact .inl (cQ z iz)
      obtain⟨g,cur,e2,g1,g2,g3,cq,bw⟩:=Inv.ghost hI hr Df dw XD;obtain⟨g',qg,Ka⟩:=cZ r p ht;obtain rfl:=hI.inj g g' r _ g1 Ka;have jr:∀z,z≠r->(T.set r u).getD z .dead=T.getD z .dead:=λz hz=>by rw[aH,if_neg (λh=>hz h.1)]
      have alJ:(T.set r u).getD r .dead=u:=by rw[aH,if_pos ⟨rfl,by rw[hI.len];exact dw⟩]
      have iU:=hI.aY s;rw[bf]at iU;obtain⟨_,cs,hf,bz⟩:=iU;have hf:cs=[a.tmps.getD s undef]:=hf;have ee:=Own.one bz;have aP:(execOp a.eval o).run P w = .ok .skip (w.setRow g (putCells cur (node [] 0 p).2 cs)):=by
       have ba:=tT (P:=P) (w:=w) (o:=(node [] 0 p).2) (hC X _ hX) g2 (show Form (.slice e te) cs (a.eval (.tmp s))from hf) ee (Own.len bz) (by simp only[Ty.sz];omega);simp[execOp,ho,qg,ba]
      have hlen:cs.length=1:=by rw[hf];rfl
      have anb:(w.setCell ⟨g,(node [] 0 p).2,none⟩ (.slice none 0 0)).setRow g (putCells (cur.setIfInBounds (node [] 0 p).2 (.slice none 0 0)) (node [] 0 p).2 cs)=w.setRow g (putCells cur (node [] 0 p).2 cs):=by
       rw[hf];exact aqN g2 g3
      intro K Q hK;unfold Oper.wp;rw[aP,Oper.upon_skip,aB,<-anb];have lg:(ah T [(r,u2),(s,V.dead)]).length=N:=by rw[cH,hI.len]
      have b9:s<N:=by
       rcases Nat.lt_or_ge s N with h|h
       ·exact h
       ·rw[eJ (by rw[hI.len];exact h)]at bf;cases bf
      have bI:(ah T [(r,u2),(s,V.dead)]).getD s .dead = .dead:=by
       show ((T.set r u2).set s .dead).getD s .dead = .dead;rw[aH,if_pos ⟨rfl,by simp[hI.len,b9]⟩]
      have bE:(ah T [(r,u2),(s,V.dead)]).getD r .dead=u2:=by
       show ((T.set r u2).set s .dead).getD r .dead=u2;rw[aH,if_neg (λh=>bu h.1.symm),aH,if_pos ⟨rfl,by rw[hI.len];exact dw⟩]
      have br:∀z,z≠r->z≠s->(ah T [(r,u2),(s,V.dead)]).getD z .dead=T.getD z .dead:=by
       intro z h1 h2;show ((T.set r u2).set s .dead).getD z .dead=_;rw[aH,if_neg (λh=>h2 h.1),aH,if_neg (λh=>h1 h.1)]
      have hz1:(dI p u).ai (T.set r u) (none,⟨n',.slice e te,x'⟩) l1:=sB (aqu u) hz;have lh:(gf p u (.slice e te) y).ai (T.set r u) u2 l3:=sB (apv u) hm;refine hK a _ _ (Inv.store (m:=n') (src:=some s) bw alJ hz1 lh (by rw[cq];simp) g1 (L6 g2) (by simp only[Ty.sz,Array.size_setIfInBounds];omega) (by rw[hlen];rfl) ?_ lg bE ?_ ?_ ?_)
      ·intro s' bN;injection bN with bN;subst bN;have iv:s∉vs:=λbY=>by
        rw[List.contains_iff_mem.2 bY]at jz;cases jz
       exact⟨bu,iv,bI,by rw[jr s bu,bf];rfl⟩
      ·intro z h1 h2 ag;have CP:z≠s:=λe=>h2 (by rw[e]);rw[jr z h1]at ag ⊢;refine .inr ⟨br z h1 CP,.inl ?_⟩;have hd:=(XD z).resolve_right (by rw[ag];simp);unfold V.eI at hd;rw[ag,Bool.true_and]at hd;generalize T.getD z .dead=v at hd;cases v with
       | ptr r2 p2 t2 =>
        have:u.dG=false:=by cases u<;>simp[V.fD,V.dG]at Df ⊢
        simp only[ca,this,Bool.not_false,Bool.and_true,Bool.or_eq_true];exact .inr (by simpa using hd)
       | _=>simp at hd
      ·intro z h1 h2 ag;rw[jr z h1];exact br z h1 (λe=>h2 (by rw[e]))
      ·obtain⟨k9,c9,Ko⟩:=Own.I5 (t:=.slice e te) lj bz;refine Own.fp c9 (λk hk=>?_) (λk d rest hd hk=>?_) Ko
       ·rcases hk with hk|⟨_,_,hk,_⟩
        ·refine⟨.inl (eD bw hk),?_⟩;rw[setRow_other _ g k _ (by rintro rfl;rw[g1]at hk;cases hk),tU (by rintro rfl;rw[g1]at hk;cases hk)]
        ·cases hk
       ·have aI:L k = .own s (d::rest):=by simpa using hk
        have XZ:k≠g:=by rintro rfl;rw[g1]at aI;injection aI with aI _;exact bu aI.symm
        have im:aU (dQ r (node [] 0 p).1 (node [] 0 p).2 (Ty.slice e te).sz n' (some s)) (w.setCell ⟨g,(node [] 0 p).2,none⟩ (.slice none 0 0)) L (λ_=>.free) k=if rest.length<n' then .own r ((node [] 0 p).1++((node [] 0 p).2+d)::rest)else .au:=by
         rw[c8 bw (by rw[aI];simp),aI];simp only[eR,dQ];rw[if_neg bu,if_pos trivial,if_pos hd]
        refine⟨by rw[setRow_other _ g k _ XZ,tU XZ],λh=>by rw[im,if_pos h],λh=>.inl (by rw[im,if_neg (by omega)])⟩
     ·exact h.elim
    ·exact h.elim
   ·exact h.elim
  ·exact h.elim
 | const c=>exact h.elim
 | func f=>exact h.elim
 | global g=>exact h.elim
end
end Go.Proofs.YtbhogmdpmkpinaaGreat.P.Am
set_option linter.constructorNameAsVariable false
namespace Go.Proofs.YtbhogmdpmkpinaaGreat.P.Am
def eO:List (Nat×V)->Nat->Option V
 | [],_=>none
 | u::l,s=>cond (u.1==s) (some u.2) (eO l s)
def IL(q:Nat)(l:List Nat):Nat:=bp+(2*((q - bp) / 2 % 100000+100000*((q - bp) / 2 / 100000 ||| jD false l))+1)
def M.eY{α:Type}(ov:List (Nat×V)):M α->M α
 | .ret a=>.ret a
 | .fail=>.fail
 | .get s k=>match eO ov s with
  | some v=>(k v).eY ov
  | none=>.get s λv=>(k v).eY ov
 | .cM t m k=>.cM t m λx=>(k x).eY ov
 | .bn b k=>.bn b (k.eY ov)
 | .ask q k=>cond ((q - bp) % 2==0)
   (match eO ov ((q - bp) / 2)with
    | some v=>.bn (v.fD&&decide (bp<=q)) (k.eY ov)
    | none=>.ask q (k.eY ov))
   (.bn ((ov.all λu=>fI q u.1 u.2)&&decide (bp<=q)) (.ask (IL q (ov.map (·.1))) (k.eY ov)))
 | .ite b x y=>.ite b (x.eY ov) (y.eY ov)
theorem aae{ov:List (Nat×V)}{s:Nat}{v:V}(h:eO ov s=some v):(s,v)∈ov:=by
 induction ov with
 | nil=>cases h
 | cons u l ih =>
  simp only[eO]at h;cases hu:(u.1==s)with
  | true =>
   rw[hu]at h;simp only[cond_true,Option.some.injEq]at h;obtain⟨u1,u2⟩:=u;simp only[beq_iff_eq]at hu;subst hu h;simp
  | false =>
   rw[hu]at h;exact List.mem_cons_of_mem _ (ih h)
theorem apo{ov:List (Nat×V)}{s:Nat}(h:eO ov s=none):s∉ov.map (·.1):=by
 induction ov with
 | nil=>simp
 | cons u l ih =>
  simp only[eO]at h;cases hu:(u.1==s)with
  | true=>rw[hu]at h;cases h
  | false =>
   rw[hu]at h;simp only[List.map_cons,List.mem_cons,not_or];exact⟨λe=>by rw[e]at hu;simp at hu,ih h⟩
theorem apL{x:Nat}(h:(x % 2==0)=false):x % 2=1:=by
 rw[beq_eq_false_iff_ne]at h;omega
theorem pay{r mm:Nat}(hr:r<100000):(2*(r+100000*mm)+1) % 2=1/\(2*(r+100000*mm)+1) / 2=r+100000*mm/\(r+100000*mm) / 100000=mm/\(r+100000*mm) % 100000=r:=by
 refine⟨?_,?_,?_,?_⟩<;>omega
theorem akB(q:Nat)(l:List Nat):IL q l - bp=2*((q - bp) / 2 % 100000+100000*((q - bp) / 2 / 100000 ||| jD false l))+1:=Nat.add_sub_cancel_left _ _
theorem aa0{T T':List V}{ov:List (Nat×V)}{q:Nat}(hl:T'.length=T.length)(hq:(q - bp) % 2=0)(hb:(T'.getD ((q - bp) / 2) .dead).fD=true)(ax:(q - bp) / 2<T.length):ey q T'=true:=by
 unfold ey;rw[Bool.and_eq_true];refine⟨IM λs hs=>?_,Bool.or_eq_true_iff.2 (.inr (decide_eq_true (by rw[hl];exact ax)))⟩;unfold fI;rw[hq,Nat.zero_add];by_cases he:s=(q - bp) / 2
 ·rw[he,hb,Bool.or_true];rfl
 ·have:(s != (q - bp) / 2)=true:=bne_iff_ne.2 he;rw[this,Bool.true_or];rfl
theorem apS[af]{T T':List V}{ov:List (Nat×V)}{q:Nat}(hl:T'.length=T.length)(hT:∀s,T'.getD s .dead=(eO ov s).getD (T.getD s .dead))(Dd:(q - bp) % 2=1)(wW:∀u∈ov,fI q u.1 u.2=true)(hb:ey (IL q (ov.map (·.1))) T=true):ey q T'=true:=by
 have e:=akB q (ov.map (·.1));have hr:(q - bp) / 2 % 100000<100000:=Nat.mod_lt _ (Nat.zero_lt_succ 99999);generalize hm:((q - bp) / 2 / 100000 ||| jD false (ov.map (·.1)))=mm at e;obtain⟨e1,e2,e3,e4⟩:=pay (mm:=mm) hr;unfold ey at hb ⊢;rw[Bool.and_eq_true]at hb ⊢;refine⟨IM λs hs=>?_,Bool.or_eq_true_iff.2 (.inl (beq_iff_eq.2 Dd))⟩;rw[Nat.zero_add,hT];cases hv:eO ov s with
 | some v=>exact wW (s,v) (aae hv)
 | none =>
  have ef:s<T.length:=by omega
  have:=vL hb.1 s ef;unfold fI at this ⊢;rw[e,e1,e2,e3,e4,Nat.zero_add]at this;rw[Dd];simp only[Option.getD_none];have XF:mm.testBit (s+1)=((q - bp) / 2 / 100000).testBit (s+1):=by
   rw[<-hm,Nat.testBit_or,xq (apo hv),Bool.or_false]
  have alO:mm.testBit 0=((q - bp) / 2 / 100000).testBit 0:=by
   rw[<-hm,Nat.testBit_or,xr,Bool.or_false]
  rw[XF,alO,show ((1:Nat)==0)=false from rfl,cond_false]at this;rw[show ((1:Nat)==0)=false from rfl,cond_false];exact this
theorem pk[af]{α:Type}{T T':List V}{ov:List (Nat×V)}(hl:T'.length=T.length)(gm:∀s,s∈ov.map (·.1)->s<T.length)(hT:∀s,T'.getD s .dead=(eO ov s).getD (T.getD s .dead))(m:M α):
  ∀{a:α} {log:List Nat},(m.eY ov).ai T a log->∃aG,m.ai T' a aG:=by
 induction m with
 | ret _=>intro a log h;exact⟨[],h.1,rfl⟩
 | fail=>intro a log h;exact h.elim
 | get s k ih =>
  intro a log h;simp only[M.eY]at h;have hs:=hT s;split at h
  ·rename_i v hv;rw[hv]at hs;obtain⟨aG,h⟩:=ih v h;exact⟨s::aG,aG,rfl,by rw[hs];exact h⟩
  ·rename_i hv;rw[hv]at hs;obtain⟨l1,rfl,h⟩:=h;obtain⟨aG,h⟩:=ih _ h;exact⟨s::aG,aG,rfl,by rw[hs];exact h⟩
 | cM _ _ k ih =>
  intro a log h;obtain⟨x,hx,h⟩:=h;obtain⟨aG,h⟩:=ih x h;exact⟨aG,x,hx,h⟩
 | bn _ k ih =>
  intro a log h;obtain⟨hb,h⟩:=h;obtain⟨aG,h⟩:=ih h;exact⟨aG,hb,h⟩
 | ite _ x y ihx ihy =>
  intro a log h;rcases h with⟨hb,h⟩|⟨hb,h⟩
  ·obtain⟨aG,h⟩:=ihx h;exact⟨aG,.inl ⟨hb,h⟩⟩
  ·obtain⟨aG,h⟩:=ihy h;exact⟨aG,.inr ⟨hb,h⟩⟩
 | ask q k ih =>
  intro a log h;simp only[M.eY]at h;cases hq:((q - bp) % 2==0)with
  | true =>
   rw[hq]at h;simp only[cond_true]at h;simp only[beq_iff_eq]at hq;split at h
   ·rename_i v hv;obtain⟨hb,h⟩:=h;simp only[Bool.and_eq_true,decide_eq_true_eq]at hb;obtain⟨aG,h⟩:=ih h;exact⟨q::aG,⟨aa0 (ov:=ov) hl hq (by rw[hT,hv];exact hb.1) (gm _ (List.mem_map_of_mem (f:=(·.1)) (aae hv))),hb.2⟩,aG,rfl,h⟩
   ·rename_i hv;obtain⟨⟨hb,hk⟩,l1,rfl,h⟩:=h;obtain⟨aG,h⟩:=ih h;unfold ey at hb;rw[Bool.and_eq_true,hq]at hb;have ax:(q - bp) / 2<T.length:=by simpa using hb.2
    have:=vL hb.1 _ ax;unfold fI at this;rw[hq,Nat.zero_add]at this;exact⟨q::aG,⟨aa0 (ov:=ov) hl hq (by rw[hT,hv];simpa using this) ax,hk⟩,aG,rfl,h⟩
  | false =>
   rw[hq]at h;obtain⟨wW,⟨hb,hk⟩,l1,rfl,h⟩:=h;simp only[Bool.and_eq_true,decide_eq_true_eq,List.all_eq_true]at wW;obtain⟨aG,h⟩:=ih h;have Dd:=apL hq;exact⟨q::aG,⟨apS hl hT Dd wW.1 hb,wW.2⟩,aG,rfl,h⟩
def V8(N:Nat)(kids:List Nat)(s r:Nat)(p:List St)(t':Ty)(u:V)(m:M (List (Nat×V))):M (List (Nat×V)):=
 (dI p u).bind λz=>match z with
  | (none,⟨n,t,x⟩) =>
   if n≠0/\t.depth≠0/\s<N/\r<N/\s≠r/\t=t' then
    match p with
    | []=>iI true r s kids ((m.eY [(r,.dead),(s,.d none n t x)]).bind λups=>.ret ((r,.dead)::(s,.d none n t x)::ups))
    | _::_=>match t,x with
     | .slice e te,x=>(gf p u (.slice e te) []).bind λu'=>iI false r s kids ((m.eY [(r,.hole u' p),(s,.d none n (.slice e te) x)]).bind λups=>.ret ((r,.hole u' p)::(s,.d none n (.slice e te) x)::ups))
     | _,_=>m
   else m
  | _=>m
def mR(N:Nat)(kids:Nat->List Nat):List Nat->M (List (Nat×V))->M (List (Nat×V))
 | [],m=>m
 | s::l,m=>.get s λv=>match v with
  | .view r p t=>.get r λu=>match u with
   | .d _ _ _ _=>match p with
    | []=>uj N [s] (mR N kids l m)
    | _::_=>mR N kids l m
   | .box _ _ _ _=>V8 N (kids r) s r p t u (mR N kids l m)
   | _=>mR N kids l m
  | _=>mR N kids l m
section
variable{P:Program}{C:Ctx}{w w' w0:World}{S S':Nat->Prop}{L L' L0:Nat->aj}{s N:Nat}{vs:List Nat}{T T':List V}{tm tm':Array Value}{a:Act}
theorem ab6[af]{r s:Nat}{v1 v2:V}(iT:s≠r)(hr:r<T.length)(hs:s<T.length):(∀z,((T.set r v1).set s v2).getD z .dead=(eO [(r,v1),(s,v2)] z).getD (T.getD z .dead))/\∀z,z∈[(r,v1),(s,v2)].map (·.1)->z<T.length:=by
 refine⟨λz=>?_,λz hz=>?_⟩
 ·simp only[eO];rw[aH,aH];by_cases h1:z=r
  ·subst h1;simp[iT.symm,hr]
  ·have e1:(r==z)=false:=by simpa using Ne.symm h1
   by_cases h2:z=s
   ·subst h2;rw[e1];simp[hs]
   ·have e2:(s==z)=false:=by simpa using Ne.symm h2
    rw[e1,e2];simp[h1,h2]
 ·simp only[List.map_cons,List.map_nil,List.mem_cons,List.not_mem_nil,or_false]at hz;rcases hz with rfl|rfl
  ·exact hr
  ·exact hs
theorem akS[af]{m:M (List (Nat×V))}{kids:List Nat}{r:Nat}{p:List St}{t':Ty}{u:V}{ups:List (Nat×V)}{log:List Nat}(hI:Inv w0 L0 N vs T a w L)(hs:T.getD s .dead = .view r p t')(hr:T.getD r .dead=u)(wq:∃l n t x,u = .box l n t x)
  (h0:(V8 N kids s r p t' u m).ai T ups log):∃T1 L1 bH log2,Inv w0 L0 N vs T1 a w L1/\m.ai T1 bH log2/\ah T ups=ah T1 bH:=by
 obtain⟨z,l1,l2,rfl,hz,h⟩:=M.aq h0;obtain⟨l,n,t,x⟩:=z;have fP:∀{log},m.ai T ups log->∃T1 L1 bH log2,Inv w0 L0 N vs T1 a w L1/\m.ai T1 bH log2/\ah T ups=ah T1 bH:=λh=>⟨T,L,ups,_,hI,h,rfl⟩;have hu:u.fD=true:=by obtain⟨l0,n0,t0,x0,rfl⟩:=wq;rfl
 cases l with
 | some _=>exact fP h
 | none =>
  dsimp only at h;split at h
  ·rename_i hc;obtain⟨hn,hd,b9,dw,bu,rfl⟩:=hc;have hTl:T.length=N:=hI.len;cases p with
   | nil =>
    obtain⟨cQ,log2,h⟩:=jV h;obtain⟨bH,l3,l4,rfl,h1,h2⟩:=M.aq h;obtain⟨rfl,_⟩:=h2;obtain⟨nP,gm⟩:=ab6 (T:=T) (v1:=.dead) (v2:=.d none n t x) bu (by omega) (by omega);obtain⟨fQ,h1⟩:=pk (T':=(T.set r .dead).set s (.d none n t x)) (by simp) gm nP m h1;have KG:(rb [] (T.getD r .dead)).ai T (none,⟨n,t,x⟩) l1:=by
     rw[hr];obtain⟨l0,n0,t0,x0,rfl⟩:=wq;exact hz
    have cB:oa r s T=true:=by
     unfold oa;rw[List.all_eq_true];intro b hb;obtain⟨i,hi⟩:=List.mem_iff_getElem?.1 hb;simp only[List.getElem?_mapIdx,Option.map_eq_some_iff]at hi;obtain⟨v,hv,rfl⟩:=hi;have lb:T.getD i .dead=v:=by simp[List.getD_eq_getElem?_getD,hv]
     simp only[id_eq,Bool.or_eq_true,beq_iff_eq,bne_iff_ne];by_cases o6:i=s
     ·exact .inl o6
     ·right;have:=cQ i o6;rw[lb]at this;simpa[V.on]using this
    obtain⟨L',iM⟩:=Inv.take hI hs b9 KG hn hd cB;exact⟨_,L',bH,fQ,iM,h1,rfl⟩
   | cons st p =>
    dsimp only at h;split at h
    ·rename_i e te x;obtain⟨u',l3,l4,rfl,hm,h⟩:=M.aq h;obtain⟨cQ,log2,h⟩:=jV h;obtain⟨bH,l5,l6,rfl,h1,h2⟩:=M.aq h;obtain⟨rfl,_⟩:=h2;obtain⟨nP,gm⟩:=ab6 (T:=T) (v1:=.hole u' (st::p)) (v2:=.d none n (.slice e te) x) bu (by omega) (by omega);obtain⟨fQ,h1⟩:=pk (T':=(T.set r (.hole u' (st::p))).set s (.d none n (.slice e te) x)) (by simp) gm nP m h1;obtain⟨L',iM⟩:=Inv.arC hI hs hr hu b9 dw hz hm hn cQ;exact⟨_,L',bH,fQ,iM,h1,rfl⟩
    ·exact fP h
  ·exact fP h
theorem ot[af]{w:World}{a:Act}{m:M (List (Nat×V))}{kids:Nat->List Nat}:{ss:List Nat}->{T:List V}->{L:Nat->aj}->{ups:List (Nat×V)}->{log:List Nat}->Inv w0 L0 N vs T a w L->(mR N kids ss m).ai T ups log ->
  ∃T1 L1 bH log2,Inv w0 L0 N vs T1 a w L1/\m.ai T1 bH log2/\ah T ups=ah T1 bH
 | [],T,L,ups,log,hI,h=>⟨T,L,ups,log,hI,h,rfl⟩
 | s::l,T,L,ups,log,hI,h=>by
  obtain⟨eW,rfl,h⟩:=h;dsimp only at h;generalize bf:T.getD s .dead=v at h;split at h
  ·rename_i r p t';obtain⟨log2,rfl,h⟩:=h;dsimp only at h;generalize xc:T.getD r .dead=u at h;split at h
   ·split at h
    ·obtain⟨T1,L1,bH,fQ,k1,k2,k3⟩:=xZ hI h;obtain⟨T2,L2,jJ,jC,j1,j2,j3⟩:=ot k1 k2;exact⟨T2,L2,jJ,jC,j1,j2,k3.trans j3⟩
    ·exact ot hI h
   ·obtain⟨T1,L1,bH,fQ,k1,k2,k3⟩:=akS hI bf xc ⟨_,_,_,_,rfl⟩ h;obtain⟨T2,L2,jJ,jC,j1,j2,j3⟩:=ot k1 k2;exact⟨T2,L2,jJ,jC,j1,j2,k3.trans j3⟩
   ·exact ot hI h
  ·exact ot hI h
end
def Ej(C:Ctx)(vs:List Nat)(N:Nat)(kids:List Nat)(X:TypeId)(r:Nat)(u:V)(x:Operand)(m:M (List (Nat×V))):M (List (Nat×V)):=
 match u with
 | .box _ _ t0 _=>(cK C X x).bind λv=>match v with
  | .d l 0 t y=>if t=t0/\C.ty X=some t/\t.depth≠0/\r<N/\l≠some r then
    iI false r r kids (.bn (fH vs (.box l 0 t y)) (.ret [(r,.box l 0 t y)]))
   else m
  | _=>m
 | _=>m
def pz(r:Nat):Nat->List Nat->aj:=λz q=>if z=r then (match q with|[]=>.own r []|_::_=>.other)else .own z q
section
variable{P:Program}{C:Ctx}{w w' w0:World}{S S':Nat->Prop}{L L' L0:Nat->aj}{s N:Nat}{vs:List Nat}{T T':List V}{tm tm':Array Value}{a:Act}
theorem Ei{r z z':Nat}{q q':List Nat}(h:pz r z q = .own z' q'):z'=z/\q'=q/\(z=r->q=[]):=by
 unfold pz at h;split at h
 ·rename_i hz;split at h
  ·injection h with h1 h2;exact⟨by rw[<-h1,hz],h2.symm,λ_=>rfl⟩
  ·cases h
 ·rename_i hz;injection h with h1 h2;exact⟨h1.symm,h2.symm,λe=>absurd e hz⟩
theorem acj[af]{r:Nat}{X:Nat->Prop}(hr:X r):fL (pz r) X:=by
 refine⟨λz q hX=>?_,λz q z' q' hX h=>?_,λz q z2 q2 z' q' h1 h2=>?_,λz q=>?_⟩
 ·unfold pz;rw[if_neg (λe:z=r=>hX (e▸hr))]
 ·obtain⟨rfl,_⟩:=Ei h;exact hX
 ·obtain⟨rfl,rfl,_⟩:=Ei h1;obtain⟨h3,h4,_⟩:=Ei h2;exact⟨h3,h4⟩
 ·unfold pz
  repeat' split
  all_goals simp
theorem art[af](hI:Inv w0 L0 N vs T a w L)(hC:bD P C){o:Oper}{X:TypeId}{t r:Nat}{kids:List Nat}{u:V}{x:Operand}{m:M (List (Nat×V))}{ups:List (Nat×V)}{log:List Nat}(ho:o.op = .store X (.tmp t) x)(aB:o.dst=none)
  (ht:addrOf t (T.getD t .dead)=some (r,[])) (cZ:∀r p,addrOf t (T.getD t .dead)=some (r,p)->∃g,a.eval (.tmp t) = .pointer (some ⟨g,(node [] 0 p).2,none⟩)/\L g = .own r (node [] 0 p).1)
  (hr:T.getD r .dead=u) (hm:∀{log:List Nat},m.ai T ups log->Step P o w0 L0 N vs (ah T ups) a w) (h:(Ej C vs N kids X r u x m).ai T ups log):Step P o w0 L0 N vs (ah T ups) a w:=by
 unfold Ej at h;split at h
 ·rename_i l0 n0 t0 x0;obtain⟨v,l1,l2,rfl,hx,h2⟩:=M.aq h;split at h2
  ·rename_i l tt y;split at h2
   ·rename_i hc;obtain⟨rfl,hX,hd,dw,wO⟩:=hc;obtain⟨cQ,log2,h3⟩:=jV h2;obtain⟨aC,rfl,_⟩:=h3;obtain⟨g,qg,hg⟩:=cZ r [] ht;have bd:=hI.aY r;rw[hr]at bd;obtain⟨_,g2,cur,e,k1,k2,k3,k4,k5⟩:=bd;obtain rfl:=hI.inj g g2 r _ hg k2;have ek:∃s0,(∀r',l=some r'->(T.getD r' .dead).deep=true)/\∃cs,Form tt cs (a.eval x)/\Own w L (SL L l) s0 0 tt y [] 0 cs:=by
     rcases kH hI hx with⟨s,_,_,h⟩|⟨_,h⟩
     ·exact⟨s,h⟩
     ·exact⟨0,h L T a.tmps 0 w⟩
    obtain⟨s0,th,cs,hf,bQ⟩:=ek;have ee:=Own.one bQ;have hlen:=Own.len bQ;have al4:a.eval (.tmp t) = .pointer (some ⟨g,0,none⟩):=qg;have aP:(execOp a.eval o).run P w = .ok .skip (w.setRow g (putCells cur 0 cs)):=by
     have ba:=tT (P:=P) (w:=w) (o:=0) (hC X _ hX) k3 hf ee hlen (by omega);simp[execOp,ho,al4,ba]
    have gv:(putCells cur 0 cs).toList=cs:=by
     simp[putCells,hlen,k4]
    intro K Q hK;unfold Oper.wp;rw[aP,Oper.upon_skip,aB];have bE:(ah T [(r,V.box l 0 tt y)]).getD r .dead = .box l 0 tt y:=by
     show (T.set r _).getD r .dead=_;rw[aH,if_pos ⟨rfl,by rw[hI.len];exact dw⟩]
    have br:∀z,z≠r->(ah T [(r,V.box l 0 tt y)]).getD z .dead=T.getD z .dead:=by
     intro z hz;show (T.set r _).getD z .dead=_;rw[aH,if_neg (λh=>hz h.1)]
    have nS:∀z,z≠r->(T.getD z .dead).on r=true->∃p' t',T.getD z .dead = .ptr r p' t'/\shallow p'=true:=by
     intro z iz ag;have hb:(T.getD z .dead).eI r=false:=cQ z iz;unfold V.eI at hb;rw[ag,Bool.true_and]at hb;generalize T.getD z .dead=v at hb ag;cases v with
     | ptr r2 p2 t2 =>
      have:r2=r:=by simpa[V.on,V.root]using ag
      subst this;exact⟨p2,t2,rfl,by simpa using hb⟩
     | _=>simp at hb
    have tg:∀r',l=some r'->r'≠r/\(T.getD r' .dead).on r=false:=by
     intro r' dT;have bo:r'≠r:=λe=>wO (by rw[dT,e]);refine⟨bo,?_⟩;cases ag:(T.getD r' .dead).on r with
     | false=>rfl
     | true =>
      obtain⟨p',t',he,_⟩:=nS r' bo ag;have:=th r' dT;rw[he]at this;simp[V.deep]at this
    have Km:∀k,k≠g->(w.setRow g (putCells cur 0 cs)).heap[k]?=w.heap[k]?:=λk hk=>setRow_other w g k _ hk;refine hK a _ _ (Inv.gY (f:=pz r) (X:=λz=>z=r\/(T.getD z .dead).on r=true) (nl:=λ_=>.free) hI (acj (.inl rfl)) ?_ (λ_ _ _ _ _ h=>by cases h) hI.size (by rw[cH,hI.len]) hI.dR ?_ ?_ ?_ ?_ ?_)
    ·refine⟨rfl,rfl,rfl,by simp[World.setRow],Nat.le_refl _,λk hk hx=>Km k ?_,λ_ _=>rfl,λ_ _ _ _ h=>by cases h⟩
     rintro rfl
     exact hx r _ hg (.inl rfl)
    ·intro k z q hz hk;by_cases dN:z=r
     ·subst dN;rw[bE];rfl
     ·rw[br z dN];unfold aU at hk;split at hk
      ·obtain⟨s0,q0,e0,f0⟩:=eZ hk;obtain⟨rfl,rfl,_⟩:=Ei f0;exact hI.owner k _ _ e0
      ·cases hk
    ·intro z r' hz ag aZ;have hz:=not_or.1 hz;rcases aZ with rfl|aZ
     ·exact absurd ag hz.2
     ·by_cases h2:r'=r
      ·subst h2;exact absurd ag hz.2
      ·obtain⟨p',t',he,_⟩:=nS r' h2 aZ;rw[he];rfl
    ·intro z hz;have hz:=not_or.1 hz;exact⟨br z hz.1,rfl⟩
    ·intro z r' hz ag;by_cases h1:z=r
     ·subst h1;rw[bE]at ag;exact qN aC r' ag
     ·rw[br z h1]at ag;exact hI.roots z r' ag
    ·intro z hz;by_cases h1:z=r
     ·subst h1;rw[bE];refine⟨λr' aZ=>?_,g,putCells cur 0 cs,e,k1,?_,setRow_heap w g cur _ e _ k3,by rw[DX (by omega)];exact k4,?_⟩
      ·rw[br r' (tg r' aZ).1];exact th r' aZ
      ·rw[c8 hI (by rw[hg];simp),hg];simp[eR,pz,node]
      ·rw[gv];refine Own.dP (Rd.move (λk hk=>?_) (Own.eQ bQ));rcases hk with hk|⟨r',q,dT,hk⟩
       ·exact⟨.inl (eD hI hk),Km k (by rintro rfl;rw[hg]at hk;cases hk)⟩
       ·obtain⟨h1,h2⟩:=tg r' dT;refine⟨.inr ⟨r',q,dT,xy hI (acj (X:=λz'=>z'=z\/(T.getD z' .dead).on z=true) (.inl rfl)) hk (not_or.2 ⟨h1,by rw[h2];simp⟩)⟩,Km k ?_⟩
        rintro rfl
        rw[hg]at hk;injection hk with hk _;exact h1 hk.symm
     ·rw[br z h1];have ag:(T.getD z .dead).on r=true:=hz.resolve_left h1;obtain⟨p',t',he,eC⟩:=nS z h1 ag;have bq:=hI.aY z;rw[he]at bq ⊢;obtain⟨g3,j1,j2⟩:=bq;refine⟨g3,j1,?_⟩;rw[qV eC]at j2 ⊢;rw[c8 hI (by rw[j2];simp),j2];simp[eR,pz]
   ·exact hm h2
  ·exact hm h2
 ·exact hm h
end
def I9(C:Ctx)(vs:List Nat)(X:TypeId)(d:Nat)(x:Operand)(m:M (List (Nat×V))):M (List (Nat×V)):=
 match x with
 | .tmp s=>.get s λv=>match v with
  | .d none k t y=>if k≠0/\t.depth≠0 then
    (if C.ty X=some t/\s≠d/\s<100000/\vs.contains d=true then iI true s d [] (.ret [(d,.box none k t y),(s,.view d [] t)])else .fail)
   else m
  | _=>m
 | _=>m
section
variable{P:Program}{C:Ctx}{w w' w0:World}{S S':Nat->Prop}{L L' L0:Nat->aj}{s N:Nat}{vs:List Nat}{T T':List V}{tm tm':Array Value}{a:Act}
theorem aq3[af](hI:Inv w0 L0 N vs T a w L)(hC:bD P C){o:Oper}{X:TypeId}{x:Operand}{d:Nat}{m:M (List (Nat×V))}{ups:List (Nat×V)}{log:List Nat}(ho:o.op = .box X x)(aB:o.dst=some d)(hd:d<N)(hid:(T.getD d .dead).idle=true)
  (h:(I9 C vs X d x m).ai T ups log) (hm:∀log,m.ai T ups log->Step P o w0 L0 N vs (ah T ups) a w):Step P o w0 L0 N vs (ah T ups) a w:=by
 unfold I9 at h;split at h
 ·rename_i s;obtain⟨aG,rfl,h⟩:=h;generalize hv:T.getD s .dead=v at h;dsimp only at h;split at h
  ·rename_i k t y;split at h
   ·rename_i wN;obtain⟨hk0,oZ⟩:=wN;split at h
    ·rename_i hc;obtain⟨hX,bL,hs5,s9⟩:=hc;obtain⟨cQ,log2,h⟩:=jV h;obtain⟨rfl,_⟩:=h;clear hm;have cQ:∀z,z≠d->(T.getD z .dead).on s=false:=λz hz=>by simpa using cQ z hz
     have iU:=hI.aY s;rw[hv]at iU;obtain⟨_,cs,hf,bQ⟩:=iU;have dh:=Form.cells hf (Own.one bQ);have b9:s<N:=by
      rcases Nat.lt_or_ge s N with h|h
      ·exact h
      ·rw[eJ (by rw[hI.len];exact h)]at hv;cases hv
     have aP:(execOp a.eval o).run P w = .ok (.value (.pointer (some ⟨w.heap.size,0,none⟩))) (w.alloc (.cells (a.tmps.getD s undef).cells X)):=by
      have al5:a.tmps.getD s undef=a.eval (.tmp s):=rfl;rw[al5];simp[execOp,ho,Instr.box,newVar,newRow,newObj,Sem.run]
     have bI:(ah T [(d,V.box none k t y),(s,V.view d [] t)]).getD s .dead = .view d [] t:=by
      show ((T.set d _).set s _).getD s .dead=_;rw[aH,if_pos ⟨rfl,by simp[hI.len,b9]⟩]
     have bU:(ah T [(d,V.box none k t y),(s,V.view d [] t)]).getD d .dead = .box none k t y:=by
      show ((T.set d _).set s _).getD d .dead=_;rw[aH,if_neg (λh=>bL h.1.symm),aH,if_pos ⟨rfl,by rw[hI.len];exact hd⟩]
     have br:∀z,z≠d->z≠s->(ah T [(d,V.box none k t y),(s,V.view d [] t)]).getD z .dead=T.getD z .dead:=by
      intro z h1 h2;show ((T.set d _).set s _).getD z .dead=_;rw[aH,if_neg (λh=>h2 h.1),aH,if_neg (λh=>h1 h.1)]
     have gv:∀c z,z≠d->(a.put (some d) c).tmps.getD z undef=a.tmps.getD z undef:=λc z h=>kJ (by simpa using Ne.symm h);have wZ:∀c,(a.put (some d) c).tmps.getD d undef=c:=λc=>by
      show (a.tmps.setIfInBounds d c).getD d undef=c;rw[ed,if_pos ⟨rfl,by rw[hI.size];exact hd⟩]
     refine Step.value (L':=aU (iA s [] 0 t.sz k d) w L (λg=>if g=w.heap.size then .own d []else .free)) aB aP ?_
     have X3:aU (iA s [] 0 t.sz k d) w L (λg=>if g=w.heap.size then .own d []else .free) w.heap.size = .own d []:=by
      unfold aU;rw[if_neg (Nat.lt_irrefl _)];exact if_pos rfl
     have bq:(w.alloc (.cells (a.tmps.getD s undef).cells X)).heap.size=w.heap.size+1:=by simp
     have KI:Wd w (w.alloc (.cells (a.tmps.getD s undef).cells X)) L (λg=>if g=w.heap.size then .own d []else .free) (λz=>z=s\/z=d):=by
      refine⟨rfl,rfl,rfl,by omega,Nat.le_refl _,λk' aI _=>Go.RowKit.Below.heap_alloc w _ k' aI,λk' aI=>?_,λk' z q aI h=>?_⟩
      ·exact if_neg (by omega)
      ·change (if k'=w.heap.size then aj.own d []else aj.free)=_ at h
       split at h
       ·injection h with h _;exact .inr h.symm
       ·cases h
     have amN:Own (w.alloc (.cells (a.tmps.getD s undef).cells X)) (aU (iA s [] 0 t.sz k d) w L (λg=>if g=w.heap.size then .own d []else .free)) (SL (aU (iA s [] 0 t.sz k d) w L (λg=>if g=w.heap.size then .own d []else .free)) none) d k t y [] 0 cs:=by
      refine Own.move (λk' aI=>⟨aI,Go.RowKit.Below.heap_alloc w _ k' ?_⟩) (λk' dd rest _ aI=>⟨aI,Go.RowKit.Below.heap_alloc w _ k' ?_⟩) (Own.taken (Nat.le_refl _) hI (λk' aI=>by
       rcases aI with aI|⟨_,_,aI,_⟩
       ·exact aI
       ·cases aI) bQ)
      ·rcases aI with aI|⟨_,_,aI,_⟩
       ·unfold aU at aI;split at aI
        ·assumption
        ·change (if k'=w.heap.size then aj.own d []else aj.free)=_ at aI
         split at aI<;>cases aI
       ·cases aI
      ·unfold aU at aI;split at aI
       ·assumption
       ·change (if k'=w.heap.size then aj.own d []else aj.free)=_ at aI
        split at aI
        ·injection aI with _ aI;cases aI
        ·cases aI
     have oX:(a.tmps.getD s undef).cells.size=t.sz:=by rw[<-Array.length_toList,dh,Own.len bQ]
     refine Inv.gY (X:=λz=>z=s\/z=d) hI (aaH bL) KI ?_ (by simp[Act.put,hI.size]) (by rw[cH,hI.len]) hI.dR ?_ ?_ ?_ ?_ ?_
     ·intro g g' z q hg h h';change (if g=w.heap.size then aj.own d []else aj.free)=_ at h
      split at h
      ·rename_i hgg;injection h with h1 h2;subst h1 h2;unfold aU at h';split at h'
       ·obtain⟨s0,q0,e0,f0⟩:=eZ h';rcases qL f0 with⟨_,i,rest,_,_,h3⟩|⟨h1,_,h2,_⟩
        ·cases h3
        ·exact absurd h2.symm h1
       ·change (if g'=w.heap.size then aj.own d []else aj.free)=_ at h'
        split at h'
        ·rename_i Kb;rw[hgg,Kb]
        ·cases h'
      ·cases h
     ·intro g z q hz h;rcases hz with rfl|rfl
      ·exfalso;unfold aU at h;split at h
       ·obtain⟨s0,q0,e0,f0⟩:=eZ h;rcases qL f0 with⟨_,_,_,_,h1,_⟩|⟨_,h1,h2,_⟩
        ·exact bL h1
        ·exact h1 h2.symm
       ·change (if g=w.heap.size then aj.own d []else aj.free)=_ at h
        split at h
        ·injection h with h _;exact bL h.symm
        ·cases h
      ·rw[bU];rfl
     ·intro z r' hz ag aZ;have hz:=not_or.1 hz;rcases aZ with rfl|rfl
      ·rw[cQ z hz.2]at ag;cases ag
      ·exact V.kG hid
     ·intro z hz;have hz:=not_or.1 hz;exact⟨br z hz.2 hz.1,gv _ z hz.2⟩
     ·intro z r' hz ag;rcases hz with rfl|rfl
      ·rw[bI]at ag;have:d=r':=by simpa[V.on,V.root]using ag
       subst this;simpa using s9
      ·rw[bU]at ag;simp[V.on,V.root]at ag
     ·intro z hz;rcases hz with rfl|rfl
      ·rw[bI,gv _ _ bL];refine⟨by rw[bU];simp only[V.deep,Bool.and_eq_true,bne_iff_ne];exact⟨hk0,oZ⟩,.inr ⟨w.heap.size,_,X,.inl (by rw[bU];rfl),X3,o3 _ _,by simp only[node];omega,?_⟩⟩;rw[dh];simp only[node,List.drop_zero];rw[List.take_of_length_le (by rw[Own.len bQ];exact Nat.le_refl _)];exact hf
      ·rw[bU,wZ];refine⟨by simp,w.heap.size,_,X,rfl,X3,o3 _ _,oX,?_⟩;rw[dh];exact amN
    ·exact h.elim
   ·exact hm _ h
  ·exact hm _ h
 ·exact hm _ h
end
def qE(u:V):V->Bool
 | .ptr _ p _=>shallow p && !u.dG
 | .view _ p _=>(shallow p && !u.dG)||(match p with|[]=>u.dG|_=>false)
 | _=>false
def kO(r:Nat)(q:List Nat)(o sz i:Nat)(ls:List Nat):aj->aj
 | .own s z=>if s=r then (match cut q z with
   | some (y::rest)=>if o<=y/\y<o+sz then .own i ((y - o)::rest)else .other
   | _=>.other)
  else if ls.contains s then .au else .other
 | x=>x
def wb(r:Nat)(q:List Nat)(o sz i:Nat):aj->aj
 | .own j (y::rest)=>if j=i/\y<sz then .own r (q++(o+y)::rest)else .other
 | .own _ []=>.other
 | x=>x
def pT(r:Nat)(q:List Nat)(o sz i:Nat)(L L':Nat->aj):Nat->aj:=λk=>match L k with
 | .free=>wb r q o sz i (L' k)
 | .own s z=>if s=r/\Eg q o sz z=true then wb r q o sz i (L' k)else .own s z
 | x=>x
def jP(r:Nat)(q:List Nat)(o sz:Nat)(l:aj):Prop:=l = .free\/∃z,l = .own r z/\kV q o sz z
section
variable{P:Program}{C:Ctx}{w w' w0:World}{S S':Nat->Prop}{L L' L0:Nat->aj}{s N:Nat}{vs:List Nat}{T T':List V}{tm tm':Array Value}{a:Act}
theorem CK{r:Nat}{q:List Nat}{o sz i:Nat}{l:aj}{s:Nat}{z:List Nat}(h:wb r q o sz i l = .own s z):∃y rest,l = .own i (y::rest)/\y<sz/\s=r/\z=q++(o+y)::rest:=by
 cases l with
 | own j z' =>
  cases z' with
  | nil=>cases h
  | cons y rest =>
   unfold wb at h;dsimp only at h;split at h
   ·rename_i hc;obtain⟨rfl,hy⟩:=hc;injection h with h1 h2;exact⟨y,rest,rfl,hy,h1.symm,h2.symm⟩
   ·cases h
 | au=>cases h
 | other=>cases h
 | free=>cases h
theorem sy[af]{r:Nat}{q:List Nat}{o sz i k:Nat}(h:jP r q o sz (L k)):pT r q o sz i L L' k=wb r q o sz i (L' k):=by
 unfold pT;rcases h with h|⟨z,h,hu⟩
 ·rw[h]
 ·rw[h];dsimp only;rw[if_pos ⟨rfl,ra.2 hu⟩]
theorem vQ[af]{r:Nat}{q:List Nat}{o sz i k:Nat}(h:¬jP r q o sz (L k)):pT r q o sz i L L' k=L k:=by
 unfold pT;cases hl:L k with
 | own s z =>
  dsimp only;rw[if_neg]
  rintro⟨rfl,hu⟩
  exact h (.inr ⟨z,hl,ra.1 hu⟩)
 | au=>rfl
 | other=>rfl
 | free=>exact absurd (.inl hl) h
theorem Mr[af]{r:Nat}{q:List Nat}{o sz i:Nat}{ls:List Nat}{l:aj}(h:¬jP r q o sz l):kO r q o sz i ls l = .au\/kO r q o sz i ls l = .other:=by
 cases l with
 | own s z =>
  unfold kO;dsimp only;split
  ·rename_i hs;subst hs;split
   ·rename_i y rest hc;rw[if_neg]
    ·exact .inr rfl
    ·rintro⟨h1,h2⟩
     refine h (.inr ⟨z,rfl,y - o,rest,by omega,?_⟩);rw[oJ hc];congr 2;omega
   ·exact .inr rfl
  ·split<;>simp
 | au=>exact .inl rfl
 | other=>exact .inr rfl
 | free=>exact absurd (.inl rfl) h
theorem Ms[af]{r:Nat}{q:List Nat}{o sz i:Nat}{ls:List Nat}{l:aj}{j:Nat}{z:List Nat}(h:kO r q o sz i ls l = .own j z):∃y rest,j=i/\z=y::rest/\l = .own r (q++(o+y)::rest):=by
 cases l with
 | own s z' =>
  unfold kO at h;dsimp only at h;split at h
  ·rename_i hs;subst hs;split at h
   ·rename_i y rest hc;split at h
    ·rename_i hb;injection h with h1 h2;refine⟨y - o,rest,h1.symm,h2.symm,?_⟩;rw[oJ hc];congr 3;omega
    ·cases h
   ·cases h
  ·split at h<;>cases h
 | au=>cases h
 | other=>cases h
 | free=>cases h
theorem arM[af]{r:Nat}{q:List Nat}{o sz i:Nat}{ls:List Nat}{y:Nat}{rest:List Nat}(h:y<sz):kO r q o sz i ls (.own r (q++(o+y)::rest)) = .own i (y::rest):=by
 unfold kO;dsimp only;rw[if_pos rfl,nw];dsimp only;rw[if_pos ⟨by omega,by omega⟩,show o+y - o=y by omega]
theorem aw6{q:List Nat}{o sz:Nat}:¬kV q o sz []:=by
 rintro⟨d,rest,_,h⟩
 have:=congrArg List.length h;simp at this
theorem aw7{q:List Nat}{o sz:Nat}:¬kV q o sz q:=by
 rintro⟨d,rest,_,h⟩
 have:=congrArg List.length h;simp at this
theorem Inv.akT[af](hI:Inv w0 L0 N vs T a w L){d:Nat}(hd:d<N)(hid:(T.getD d .dead).idle=true){r i:Nat}{p:List St}{ls:List Nat}{ps:List (Ty×Mode)}{rs:List (Ty×Nat)}{u u2:V}{n n':Nat}{t:Ty}{x y:t.den}{log log2:List Nat}{c:Value}
  (hr:T.getD r .dead=u) (hz:(dI p u).ai T (none,⟨n',t,x⟩) log) (hm:(gf p u t y).ai T u2 log2) (hn:t.depth<=n) (wS:t.depth<=n') {g0:Nat} {cur:Array Value} {e:TypeId}
  (hg:L g0 = .own r (node [] 0 p).1) (XS:w.heap[g0]?=some (.cells cur e (0,0)))
  (bc:Left w w' (λk=>kO r (node [] 0 p).1 (node [] 0 p).2 t.sz i ls (L k)) L' ps rs)
  (nR:∀k s q,L' k = .own s q->s=i)
  (wV:Own w' L' (λk=>L' k = .au) i n t y [] 0 ((cur.toList.drop (node [] 0 p).2).take t.sz)) (lg:T'.length=N) (bE:T'.getD r .dead=u2)
  {V0:V} (bU:T'.getD d .dead=V0) (wh:∀r,V0.on r=false) (wk:∀L2 tm',aD L2 T' tm' d V0 w' c)
  (hT:∀z,z≠d->z≠r->(T.getD z .dead).on r=true->(T'.getD z .dead = .dead/\(T.getD z .dead).aM=false)\/(T'.getD z .dead=T.getD z .dead/\qE u (T.getD z .dead)=true))
  (iN:∀z,z≠d->z≠r->(T.getD z .dead).on r=false->T'.getD z .dead=T.getD z .dead) :
  Inv w0 L0 N vs T' (a.put (some d) c) w' (pT r (node [] 0 p).1 (node [] 0 p).2 t.sz i L L'):=by
 have cq:=abl hz;obtain⟨mB,wX,wz,C9⟩:=Lo hm;have bd:=hI.aY r;rw[hr]at bd;obtain⟨_,_,_,ix,mh⟩:=lC hz bd;have bC:r≠d:=by
  refine di hid ?_;rw[hr];exact ix
 have cG:∀k q,L k ≠ .own d q:=λk q h=>by
  have:=hI.owner k d q h;rw[V.kG hid]at this;cases this
 have nV:∀k,¬jP r (node [] 0 p).1 (node [] 0 p).2 t.sz (L k)->(pT r (node [] 0 p).1 (node [] 0 p).2 t.sz i L L' k=L k/\w'.heap[k]?=w.heap[k]?):=by
  intro k h;have ax:k<w.heap.size:=hI.lt (λe=>h (.inl e));exact⟨vQ h,(bc.aT k ax (Mr h)).2⟩
 have amn:∀k q,L' k = .own i q->jP r (node [] 0 p).1 (node [] 0 p).2 t.sz (L k):=by
  intro k q hk;apply Classical.byContradiction;intro hp;have ax:k<w.heap.size:=hI.lt (λe=>hp (.inl e));have h9:=(bc.aT k ax (Mr hp)).1;rw[hk]at h9;rcases Mr (i:=i) (ls:=ls) hp with h|h<;>rw[h]at h9<;>cases h9
 have gv:∀s',s'≠d->(a.put (some d) c).tmps.getD s' undef=a.tmps.getD s' undef:=λs' h=>kJ (by simpa using Ne.symm h);let X:Nat->Prop:=λz=>z=d\/z=r\/(T.getD z .dead).on r=true;have mo:∀z,¬X z->z≠d/\z≠r/\(T.getD z .dead).on r=false:=by
  intro z hz;have hz:=not_or.1 hz;have fk:=not_or.1 hz.2;exact⟨hz.1,fk.1,by simpa using fk.2⟩
 have amK:∀k z,¬X z->(L k = .au\/∃r' q,L k = .own r' q/\(r'=z\/(T.getD z .dead).on r'=true))->¬jP r (node [] 0 p).1 (node [] 0 p).2 t.sz (L k):=by
  intro k z hz hk hp;obtain⟨h1,h2,h3⟩:=mo z hz;rcases hp with hp|⟨z',hp,_⟩
  ·rcases hk with hk|⟨_,_,hk,_⟩<;>rw[hp]at hk<;>cases hk
  ·rcases hk with hk|⟨r',q',hk,gT⟩
   ·rw[hp]at hk;cases hk
   ·rw[hp]at hk;injection hk with hk _;subst hk;rcases gT with rfl|gT
    ·exact h2 rfl
    ·rw[h3]at gT;cases gT
 refine Inv.upd X hI (by simp[Act.put,hI.size]) lg hI.dR ?_ ?_ ?_ ?_ ?_ ?_ ?_ ?_ ?_
 ·refine⟨bc.os.trans hI.fr.os,bc.tape.trans hI.fr.tape,bc.output.trans hI.fr.output,Nat.le_trans hI.fr.size bc.size,Nat.le_trans hI.fr.drawn bc.drawn,λk hk h0=>?_,hI.fr.ij⟩;have h1:=hI.fr.aT k hk h0;have ql:¬jP r (node [] 0 p).1 (node [] 0 p).2 t.sz (L k):=by
   rintro (h|⟨z,h,_⟩)<;>rw[h1.1]at h<;>rcases h0 with h0|h0<;>rw[h0]at h<;>cases h
  have:=nV k ql;exact⟨this.1.trans h1.1,this.2.trans h1.2⟩
 ·intro k hk;have hf:=hI.free k (Nat.le_trans bc.size hk);rw[sy (.inl hf),bc.free k hk];rfl
 ·intro k k' s q h h';by_cases hp:jP r (node [] 0 p).1 (node [] 0 p).2 t.sz (L k)
  ·rw[sy hp]at h;obtain⟨y1,rest,e1,e2,rfl,rfl⟩:=CK h;by_cases cC:jP s (node [] 0 p).1 (node [] 0 p).2 t.sz (L k')
   ·rw[sy cC]at h';obtain⟨y2,LX,e3,e4,_,e5⟩:=CK h';have e6:=List.append_cancel_left e5;injection e6 with e6 e7;have:y1=y2:=by omega
    subst this e7;exact bc.inj k k' _ _ e1 e3
   ·rw[vQ cC]at h';exact absurd (.inr ⟨_,h',y1,rest,e2,rfl⟩) cC
  ·rw[vQ hp]at h;by_cases cC:jP r (node [] 0 p).1 (node [] 0 p).2 t.sz (L k')
   ·rw[sy cC]at h';obtain⟨y1,rest,e1,e2,rfl,rfl⟩:=CK h';exact absurd (.inr ⟨_,h,y1,rest,e2,rfl⟩) hp
   ·rw[vQ cC]at h';exact hI.inj k k' s q h h'
 ·intro k s q h;by_cases hp:jP r (node [] 0 p).1 (node [] 0 p).2 t.sz (L k)
  ·rw[sy hp]at h;obtain⟨y1,rest,e1,e2,rfl,rfl⟩:=CK h;rw[bE,wX];exact ix
  ·rw[vQ hp]at h;have ho:=hI.owner k s q h;have bL:s≠d:=di hid ho;by_cases bu:s=r
   ·subst bu;rw[bE,wX];exact ix
   ·cases ag:(T.getD s .dead).on r with
    | false=>rw[iN s bL bu ag];exact ho
    | true =>
     rcases hT s bL bu ag with⟨_,h⟩|⟨h,_⟩
     ·rw[h]at ho;cases ho
     ·rw[h];exact ho
 ·intro z hz k hk;exact nV k (amK k z hz hk)
 ·intro z hz;obtain⟨h1,h2,h3⟩:=mo z hz;exact⟨iN z h1 h2 h3,gv z h1⟩
 ·intro z r' h;by_cases iV:z=d
  ·subst iV;rw[bU,wh]at h;cases h
  ·by_cases dN:z=r
   ·subst dN;rw[bE]at h;simp[V.on,mB,cq]at h
   ·cases ag:(T.getD z .dead).on r with
    | false=>rw[iN z iV dN ag]at h;exact hI.roots z r' h
    | true =>
     rcases hT z iV dN ag with⟨h1,_⟩|⟨h1,_⟩
     ·rw[h1]at h;simp[V.on,V.root]at h
     ·rw[h1]at h;exact hI.roots z r' h
 ·intro z r' hz ag ho;obtain⟨h1,h2,h3⟩:=mo z hz;have o7:r'≠d:=di hid ho;have gw:r'≠r:=λe=>by rw[e,h3]at ag;cases ag
  refine⟨?_,gv r' o7⟩;cases Yi:(T.getD r' .dead).on r with
  | false=>exact iN r' o7 gw Yi
  | true =>
   rcases hT r' o7 gw Yi with⟨_,h⟩|⟨h,_⟩
   ·rw[h]at ho;cases ho
   ·exact h
 ·intro z hX;by_cases iV:z=d
  ·subst iV;rw[bU];show aD _ _ _ _ _ _ ((a.tmps.setIfInBounds z c).getD z undef);rw[ed,if_pos ⟨rfl,by rw[hI.size];exact hd⟩];exact wk _ _
  ·by_cases dN:z=r
   ·subst dN;rw[bE,gv z iV];have qh:¬jP z (node [] 0 p).1 (node [] 0 p).2 t.sz (L g0):=by
     rintro (h|⟨z',h,hu⟩)
     ·rw[hg]at h;cases h
     ·rw[hg]at h;injection h with _ h;subst h;exact aw7 hu
    have qi:=nV g0 qh;refine Ln (T2:=T') (cur:=cur) (e':=e) (g':=g0) (cur':=cur) bd hz hm (λr' aZ=>by rw[cq]at aZ;cases aZ) ?_ ?_
    ·refine⟨λk hk=>?_,λk q2 hk hq KD=>?_,hg,by rw[qi.1];exact hg,XS,by rw[qi.2];exact XS,rfl,λ_ _=>rfl,λk hk=>hI.inj k g0 z _ hk hg⟩
     ·rw[cq]at hk ⊢;rcases hk with hk|⟨_,_,hk,_⟩
      ·have:=nV k (by rintro (h|⟨_,h,_⟩)<;>rw[hk]at h<;>cases h);exact⟨.inl (by rw[this.1];exact hk),this.2⟩
      ·cases hk
     ·exact nV k (by
       rintro (h|⟨z',h,hu⟩)
       ·rw[hk]at h;cases h
       ·rw[hk]at h;injection h with _ h;subst h;exact KD hu)
    ·refine Own.cap hn wS (Own.move (S:=λ_=>False) (λk hk=>hk.elim) (λk dd rest iP hk=>⟨?_,rfl⟩) (Own.full hn wV));rw[Nat.zero_add,List.nil_append]at hk;rw[sy (amn k _ hk),hk];show (if i=i/\dd<t.sz then _ else _)=_
     rw[if_pos ⟨rfl,iP⟩]
   ·have ag:(T.getD z .dead).on r=true:=by
     rcases hX with h|h|h
     ·exact absurd h iV
     ·exact absurd h dN
     ·exact h
    rcases hT z iV dN ag with⟨h,_⟩|⟨h,hk⟩
    ·rw[h];trivial
    ·rw[h,gv z iV];have bq:=hI.aY z;have gr:∀k,L k = .own r []->pT r (node [] 0 p).1 (node [] 0 p).2 t.sz i L L' k=L k/\w'.heap[k]?=w.heap[k]?:=λk hk=>nV k (by
      rintro (h|⟨z',h,hu⟩)
      ·rw[hk]at h;cases h
      ·rw[hk]at h;injection h with _ h;subst h;exact aw6 hu)
     generalize hv:T.getD z .dead=v at hk ag bq;cases v with
     | ptr r2 p2 t2 =>
      have:r2=r:=by simpa[V.on,V.root]using ag
      subst this;simp only[qE,Bool.and_eq_true]at hk;obtain⟨g,h1,h2⟩:=bq;refine⟨g,h1,?_⟩;rw[qV hk.1]at h2 ⊢;rw[(gr g h2).1];exact h2
     | view r2 p2 t2 =>
      have:r2=r:=by simpa[V.on,V.root]using ag
      subst this;obtain⟨cF,h1⟩:=bq;refine⟨by rw[bE,wz,<-hr];exact cF,?_⟩;rcases h1 with⟨h1,h2,l,n1,x1,h3,h4⟩|⟨g,cur1,e1,h1,h2,h3,h4,h5⟩
      ·rw[hr]at h3;subst h3;obtain⟨x2,rfl⟩:=aaB hm;exact .inl ⟨h1,by rw[gv r2 bC];exact h2,l,n1,x2,bE,h4⟩
      ·rw[hr]at h1;have eC:shallow p2=true:=by
        simp only[qE,Bool.or_eq_true,Bool.and_eq_true]at hk;rcases hk with hk|hk
        ·exact hk.1
        ·cases p2 with
         | nil=>rfl
         | cons _ _=>cases hk
       refine .inr ⟨g,cur1,e1,by rw[bE,C9];exact h1,?_⟩;rw[qV eC]at h2 ⊢;have:=gr g h2;exact⟨by rw[this.1];exact h2,by rw[this.2];exact h3,h4,h5⟩
     | _=>simp[qE]at hk
end
end Go.Proofs.YtbhogmdpmkpinaaGreat.P.Am
