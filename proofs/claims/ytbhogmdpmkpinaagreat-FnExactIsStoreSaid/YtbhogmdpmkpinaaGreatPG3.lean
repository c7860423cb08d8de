/- A part of the proof: Am18,Am19,Am20,Am21,Am22,Am23,Am24. No conditions. -/
import Derived.Test.YtbhogmdpmkpinaaGreatPG2
import Derived.Great.BuildSlice
import Derived.Orders
import Derived.Laws.CopyRow
set_option linter.unusedVariables false
set_option linter.unusedSimpArgs false
namespace Go.Proofs.YtbhogmdpmkpinaaGreat.P.Am
variable{d g k m o0:Nat}{R α:Type}{log q:List Nat}{o:Oper}{ms:List (Nat×Nat×Nat)}{r:R}{cur:Array Value}{t t':Ty}{ups:List (Nat×V)}{p:List St}{u':V}{cs:List Value}
def gj(d:Nat)(q:List Nat)(o0 m:Nat)(ms:List (Nat×Nat×Nat)):Nat->List Nat->aj:=λs z =>
 match ms.find? (λp=>p.1==s)with
 | some p=>match z with
  | y::rest=>if y<p.2.2 then (if rest.length<m then .own d (q++(o0+p.2.1+y)::rest)else .au)else .other
  | []=>.other
 | none=>if s=d then .other else .own s z
def ah(T:List V)(ups:List (Nat×V)):List V:=ups.foldl (λT u=>T.set u.1 u.2) T
def cr:List Nat->Bool
 | []=>true
 | x::l => !l.contains x&&cr l
section
variable{P:Program}{C:Ctx}{w w' w0:World}{S S':Nat->Prop}{L L' L0:Nat->aj}{s N:Nat}{vs:List Nat}{T T':List V}{tm tm':Array Value}{a:Act}
theorem WO{s:Nat}{p:Nat×Nat×Nat}(h:ms.find? (λp=>p.1==s)=some p):p∈ms/\p.1=s:=by
 refine⟨List.mem_of_find?_eq_some h,?_⟩;have:=List.find?_some h;simpa using this
theorem p6(hn:cr (ms.map (·.1))=true){p:Nat×Nat×Nat}(h:p∈ms):ms.find? (λp'=>p'.1==p.1)=some p:=by
 induction ms with
 | nil=>cases h
 | cons x l ih =>
  simp only[List.map_cons,cr,Bool.and_eq_true,Bool.not_eq_true']at hn;rcases List.mem_cons.1 h with rfl|h
  ·simp
  ·have bo:x.1≠p.1:=λe=>by
    have:(l.map (·.1)).contains x.1=true:=by
     rw[List.contains_iff_mem,e];exact List.mem_map_of_mem h
    rw[hn.1]at this;cases this
   rw[List.find?_cons_of_neg (by simpa using bo)];exact ih hn.2 h
theorem fc.Wy{b:Nat}(h:fc b ms)(hn:cr (ms.map (·.1))=true):∀p p',p∈ms->p'∈ms->p.1≠p'.1->p.2.1+p.2.2<=p'.2.1\/p'.2.1+p'.2.2<=p.2.1:=by
 have lower:∀{ms:List (Nat×Nat×Nat)} {b:Nat},fc b ms->∀p∈ms,b<=p.2.1:=by
  intro ms;induction ms with
  | nil=>intro b _ p hp;cases hp
  | cons x l ih =>
   obtain⟨s,o,sz⟩:=x;intro b h p hp;rcases List.mem_cons.1 hp with rfl|hp
   ·exact h.1
   ·have:=ih h.2 p hp;have:=h.1;omega
 induction ms generalizing b with
 | nil=>intro p p' hp;cases hp
 | cons x l ih =>
  obtain⟨s,o,sz⟩:=x;simp only[List.map_cons,cr,Bool.and_eq_true,Bool.not_eq_true']at hn;intro p p' hp cC bo;rcases List.mem_cons.1 hp with rfl|hp
  ·rcases List.mem_cons.1 cC with rfl|cC
   ·exact absurd rfl bo
   ·exact .inl (lower h.2 p' cC)
  ·rcases List.mem_cons.1 cC with rfl|cC
   ·exact .inr (lower h.2 p hp)
   ·exact ih h.2 hn.2 p p' hp cC bo
theorem sK{s:Nat}{z:List Nat}{s':Nat}{z':List Nat}(h:gj d q o0 m ms s z = .own s' z'):
  (∃p y rest,ms.find? (λp=>p.1==s)=some p/\z=y::rest/\y<p.2.2/\s'=d/\z'=q++(o0+p.2.1+y)::rest)\/(ms.find? (λp=>p.1==s)=none/\s≠d/\s'=s/\z'=z):=by
 unfold gj at h;split at h
 ·rename_i p hp;split at h
  ·split at h
   ·split at h
    ·injection h with h1 h2;exact .inl ⟨p,_,_,hp,rfl,by assumption,h1.symm,h2.symm⟩
    ·cases h
   ·cases h
  ·cases h
 ·rename_i hp;split at h
  ·cases h
  ·injection h with h1 h2;exact .inr ⟨hp,by assumption,h1.symm,h2.symm⟩
theorem alq[af]{b:Nat}(hs:fc b ms)(hn:cr (ms.map (·.1))=true):fL (gj d q o0 m ms) (λs=>s=d\/s∈ms.map (·.1)):=by
 refine⟨λs z hX=>?_,λs z s' z' hX h=>?_,λs z s2 z2 s' z' h1 h2=>?_,λs z=>?_⟩
 ·have hX:=not_or.1 hX;have:ms.find? (λp=>p.1==s)=none:=by
   rw[List.find?_eq_none];intro p hp he;exact hX.2 (by rw[List.mem_map];exact⟨p,hp,by simpa using he⟩)
  simp[gj,this,hX.1]
 ·rcases sK h with⟨_,_,_,_,_,_,rfl,_⟩|⟨h1,h2,rfl,_⟩
  ·exact .inl rfl
  ·exact hX
 ·rcases sK h1 with⟨p,y,rest,hp,rfl,hy,rfl,rfl⟩|⟨hp,hd,rfl,rfl⟩
  ·rcases sK h2 with⟨p',y',fJ,cC,rfl,hy',_,he⟩|⟨_,kZ,h3,_⟩
   ·have he:=List.append_cancel_left he;injection he with nH me;subst me;obtain⟨m1,e1⟩:=WO hp;obtain⟨m2,e2⟩:=WO cC;by_cases bo:p.1=p'.1
    ·have Kr:p=p':=by
      have f1:=p6 hn m1;have f2:=p6 hn m2;rw[bo]at f1;rw[f1]at f2;exact Option.some.inj f2
     subst Kr;exact⟨e1.symm.trans e2,by rw[show y=y' by omega]⟩
    ·have:=hs.Wy hn p p' m1 m2 bo;omega
   ·exact absurd h3.symm kZ
  ·rcases sK h2 with⟨_,_,_,_,_,_,h3,_⟩|⟨_,_,h3,h4⟩
   ·exact absurd h3 hd
   ·exact⟨h3,h4⟩
 ·unfold gj
  repeat' split
  all_goals simp
theorem Xb[af]{nl:Nat->aj}(hI:Inv w0 L0 N vs T a w L)(hn:cr (ms.map (·.1))=true):
  lS L (aU (gj d q o0 m ms) w L nl) d q o0 m ms:=by
 intro s o sz hm k y rest hy hk;have hf:=p6 hn hm;have:aU (gj d q o0 m ms) w L nl k=if rest.length<m then .own d (q++(o0+o+y)::rest)else .au:=by
  rw[c8 hI (by rw[hk];simp),hk];simp only[eR,gj,hf];rw[if_pos hy]
 refine⟨λh=>?_,λh=>?_⟩
 ·rw[this,if_pos h]
 ·rw[this,if_neg (by omega)]
theorem fg[af](ups:List (Nat×V))(T:List V)(s:Nat)(h:s∉ups.map (·.1)):(ah T ups).getD s .dead=T.getD s .dead:=by
 unfold ah;induction ups generalizing T with
 | nil=>rfl
 | cons u l ih =>
  simp only[List.map_cons,List.mem_cons,not_or]at h;simp only[List.foldl_cons];rw[ih _ h.2,aH,if_neg (λe=>h.1 e.1)]
theorem cH(ups:List (Nat×V))(T:List V):(ah T ups).length=T.length:=by
 unfold ah;induction ups generalizing T with
 | nil=>rfl
 | cons u l ih=>simp only[List.foldl_cons];rw[ih];simp
theorem lE(u1 u2:List (Nat×V))(T:List V):ah T (u1++u2)=ah (ah T u1) u2:=by
 simp[ah,List.foldl_append]
theorem Xg[af](ss:List Nat)(T:List V)(s:Nat)(h:s∈ss):(ah T (ss.map λs=>(s,V.dead))).getD s .dead = .dead:=by
 unfold ah;induction ss generalizing T with
 | nil=>cases h
 | cons x l ih =>
  simp only[List.map_cons,List.foldl_cons];by_cases hl:s∈l
  ·exact ih _ hl
  ·rcases List.mem_cons.1 h with rfl|h
   ·have:=fg (l.map λs=>(s,V.dead)) (T.set s .dead) s (by simpa using hl);unfold ah at this;rw[this,aH];split
    ·rfl
    ·rename_i hh;exact eJ (Nat.le_of_not_lt λhl=>hh ⟨rfl,hl⟩)
   ·exact absurd h hl
theorem Inv.W9[af](hI:Inv w0 L0 N vs T a w L){q:List Nat}{o0 m b hi:Nat}{n:Option Nat}{nl:Nat->aj}{v:V}{c:Value}(hd:d<N)(hid:(T.getD d .dead).idle=true)
  (hs:fc b ms) (hn:cr (ms.map (·.1))=true) (c7:r5 T b hi n ms) (bf:∀s,s∈ms.map (·.1)->s∉vs)
  (hw:Wd w w' L nl (λs=>s=d\/s∈ms.map (·.1))) (hold:∀k,k<w.heap.size->w'.heap[k]?=w.heap[k]?) (gu:∀k k' q',w.heap.size<=k->nl k = .own d q'->aU (gj d q o0 m ms) w L nl k' = .own d q'->k=k') (cG:∀k s q',w.heap.size<=k->nl k = .own s q'->s=d)
  (hv:v.root=none) (KH:∀k q',aU (gj d q o0 m ms) w L nl k = .own d q'->v.aM=true)
  (hr:∀T' tm',aD (aU (gj d q o0 m ms) w L nl) T' tm' d v w' c) :
  Inv w0 L0 N vs (ah T (ms.map (λp=>(p.1,V.dead))++[(d,v)])) (a.put (some d) c) w' (aU (gj d q o0 m ms) w L nl):=by
 have wA:d∉ms.map (·.1):=λh=>by
  obtain⟨p,hp,rfl⟩:=List.mem_map.1 h;obtain⟨_,_,m',t,x,h1,h2,h3,_⟩:=c7 p.1 p.2.1 p.2.2 hp;rw[h1]at hid;simp[V.idle,V.aM,h2,h3]at hid
 have nQ:ms.map (λp=>(p.1,V.dead))=(ms.map (·.1)).map λs=>(s,V.dead):=by simp[List.map_map]
 have hT:ah T (ms.map (λp=>(p.1,V.dead))++[(d,v)])=(ah T ((ms.map (·.1)).map λs=>(s,V.dead))).set d v:=by
  rw[lE,nQ];rfl
 have hlen:(ah T ((ms.map (·.1)).map λs=>(s,V.dead))).length=N:=by rw[cH,hI.len]
 have bU:(ah T (ms.map (λp=>(p.1,V.dead))++[(d,v)])).getD d .dead=v:=by
  rw[hT,aH,if_pos ⟨rfl,by rw[hlen];exact hd⟩]
 have bI:∀s,s∈ms.map (·.1)->(ah T (ms.map (λp=>(p.1,V.dead))++[(d,v)])).getD s .dead = .dead:=by
  intro s hs;rw[hT,aH,if_neg (λe=>wA (by rw[<-e.1];exact hs))];exact Xg _ _ _ hs
 have cB:(T.getD d .dead).aM=false:=V.kG hid;refine Inv.gY (X:=λs=>s=d\/s∈ms.map (·.1)) hI (alq hs hn) hw ?_ (by simp[Act.put,hI.size]) (by rw[hT,List.length_set,hlen]) hI.dR ?_ ?_ ?_ ?_ ?_
 ·intro k k' s q' hk h h';obtain rfl:=cG k s q' hk h;exact gu k k' q' hk h h'
 ·intro k s q' hX h;rcases hX with rfl|hX
  ·rw[bU];exact KH k q' h
  ·exfalso;unfold aU at h;split at h
   ·obtain⟨s0,q0,e0,f0⟩:=eZ h;rcases sK f0 with⟨_,_,_,_,_,_,rfl,_⟩|⟨h1,h2,rfl,_⟩
    ·exact wA hX
    ·rw[List.find?_eq_none]at h1;obtain⟨p,hp,rfl⟩:=List.mem_map.1 hX;exact h1 p hp (by simp)
   ·obtain rfl:=cG k s q' (by omega) h;exact wA hX
 ·intro s r hX ag hr;rcases hr with rfl|hr
  ·exact cB
  ·exact absurd (hI.roots s r ag) (bf r hr)
 ·intro s hX;have sQ:=not_or.1 hX;rw[hT,aH,if_neg (λe=>sQ.1 e.1),fg _ _ _ (by simpa[List.map_map]using sQ.2)];refine⟨rfl,?_⟩;show (a.tmps.setIfInBounds d c).getD s undef=_;rw[ed,if_neg (λe=>sQ.1 e.1)]
 ·intro s r hX ag;rcases hX with rfl|hX
  ·rw[bU]at ag;simp[V.on,hv]at ag
  ·rw[bI s hX]at ag;simp[V.on,V.root]at ag
 ·intro s hX;rcases hX with rfl|hX
  ·rw[bU];show aD _ _ _ _ _ _ ((a.tmps.setIfInBounds s c).getD s undef);rw[ed,if_pos ⟨rfl,by rw[hI.size];exact hd⟩];exact hr _ _
  ·rw[bI s hX];trivial
end
def I8(C:Ctx)(vs:List Nat)(X:TypeId)(d:Nat)(parts:List (Nat×Operand)):M (List (Nat×V)):=
 match C.ty X with
 | some (.agg t)=>if t.eN=true then (if parts.isEmpty=true then .ret [(d,.d none t.depth (.agg t) t.zero)]else .fail)else (oI C 0 0 t parts).bind λb =>
   if cr (b.ms.map (·.1))=true/\(b.ms.all λp => !vs.contains p.1)=true then
    .ret (b.ms.map (λp=>(p.1,V.dead))++[(d,.d none (b.n.getD t.depth) (.agg t) b.x)])
   else .fail
 | _=>.fail
structure Bs (t:Ty) where
 xs:List t.den
 n:Option Nat
 ms:List (Nat×Nat×Nat)
def xL(C:Ctx)(t:Ty):(j left:Nat)->List (Nat×Operand)->M (Bs t)
 | _,0,parts=>if parts.isEmpty then .ret ⟨[],none,[]⟩else .fail
 | j,left+1,parts=>(p5 C j (j*t.sz) t parts).bind λp=>(xL C t (j+1) left p.2).bind λr=>.ret ⟨p.1.x::r.xs,tG p.1.n r.n,p.1.ms++r.ms⟩
def LZ(C:Ctx)(vs:List Nat)(X:TypeId)(d len:Nat)(parts:List (Nat×Operand)):M (List (Nat×V)):=
 match C.ty X with
 | some (.slice e t)=>(xL C t 0 len parts).bind λb =>
   if cr (b.ms.map (·.1))=true/\(b.ms.all λp => !vs.contains p.1)=true/\len*t.sz<=16777216/\t.sz≠0 then
    .ret (b.ms.map (λp=>(p.1,V.dead))++[(d,.d none (b.n.getD t.depth+1) (.slice e t) b.xs)])
   else .fail
 | _=>.fail
section
variable{P:Program}{C:Ctx}{w w' w0:World}{S S':Nat->Prop}{L L' L0:Nat->aj}{s N:Nat}{vs:List Nat}{T T':List V}{tm tm':Array Value}{a:Act}
def Step[af](P:Program)(o:Oper)(w0:World)(L0:Nat->aj)(N:Nat)(vs:List Nat)(T':List V)(a:Act)(w:World):Prop :=
 ∀(K:Act->World->Prop) (Q:Exit->Act->World->Prop),(∀a' w' L',Inv w0 L0 N vs T' a' w' L'->K a' w')->o.wp P a w K Q
theorem Step.value[af]{c:Value}(ho:o.dst=some d)(aP:(execOp a.eval o).run P w = .ok (.value c) w')(h:Inv w0 L0 N vs T' (a.put (some d) c) w' L'):Step P o w0 L0 N vs T' a w:=by
 intro K Q hK;unfold Oper.wp;rw[aP,Oper.upon_value,ho];exact hK _ _ _ h
theorem apx{o:Nat}{x:Operand}{b:Bd t}(h:(LK C t o x).ai T b log):b.ms≠[]->t.depth≠0:=by
 obtain⟨v,l1,l2,rfl,h1,h2⟩:=M.aq h;split at h2
 ·split at h2
  ·rename_i ht;subst ht;split at h2
   ·obtain⟨rfl,_⟩:=h2;intro h;exact absurd rfl h
   ·split at h2
    ·obtain⟨rfl,_⟩:=h2;intro h;exact absurd rfl h
    ·intro _;assumption
  ·exact h2.elim
 ·exact h2.elim
theorem Lp[af]{i o:Nat}{parts xG:List (Nat×Operand)}{b:Bd t}(h:(p5 C i o t parts).ai T (b,xG) log):b.ms≠[]->t.depth≠0:=by
 unfold p5 at h;split at h
 ·split at h
  ·obtain⟨b1,l1,l2,rfl,h1,h2⟩:=M.aq h;obtain⟨h2,_⟩:=h2;cases h2;exact apx h1
  ·obtain⟨h,_⟩:=h;cases h;intro h;exact absurd rfl h
 ·obtain⟨h,_⟩:=h;cases h;intro h;exact absurd rfl h
theorem aaD[af]:{t:Ty}->{i o:Nat}->{parts:List (Nat×Operand)}->{b:Bd t}->{log:List Nat}->(oI C i o t parts).ai T b log->b.ms≠[]->t.depth≠0
 | .pair ta tb,i,o,parts,b,log,h=>by
  simp only[oI]at h;obtain⟨⟨b1,xH⟩,l1,l2,rfl,h1,h2⟩:=M.aq h;obtain⟨r,l3,l4,rfl,h3,h4⟩:=M.aq h2;obtain⟨rfl,_⟩:=h4;intro bo;simp only[Ty.depth];by_cases h:b1.ms=[]
  ·have:r.ms≠[]:=λe=>bo (by simp[h,e]);have:=aaD h3 this;omega
  ·have:=Lp h1 h;omega
 | .int _,i,o,parts,b,log,h | .bool,i,o,parts,b,log,h | .str,i,o,parts,b,log,h | .raw _,i,o,parts,b,log,h | .cap _ _,i,o,parts,b,log,h | .unit,i,o,parts,b,log,h | .agg _,i,o,parts,b,log,h | .slice _ _,i,o,parts,b,log,h=>by
  simp only[oI]at h;obtain⟨⟨b1,xH⟩,l1,l2,rfl,h1,h2⟩:=M.aq h;simp only at h2;split at h2
  ·obtain⟨rfl,_⟩:=h2;exact Lp h1
  ·exact h2.elim
theorem aqy{fs:Array Field}{g:Field->Nat}(h:∀f∈fs.toList,(sizeOf f.type).run P w = .ok (g f) w):
  (fs.mapM λf=>do pure (f.offset,<-sizeOf f.type):Sem (Array (Nat×Nat))).run P w = .ok (fs.map λf=>(f.offset,g f)) w:=by
 obtain⟨l⟩:=fs;rw[Array.mapM_eq_mapM_toList];have key:∀l:List Field,(∀f∈l,(sizeOf f.type).run P w = .ok (g f) w)->(l.mapM λf=>do pure (f.offset,<-sizeOf f.type):Sem (List (Nat×Nat))).run P w = .ok (l.map λf=>(f.offset,g f)) w:=by
  intro l;induction l with
  | nil=>intro _;simp
  | cons f l ih =>
   intro h;have h1:=h f (by simp);have h2:=ih (λf hf=>h f (by simp[hf]));simp only[List.mapM_cons,Sem.run_bind,h1,Result.andThen_ok,Sem.run_pure,h2,List.map_cons]
 have:=key l h;simp only[Sem.run_map,this,Result.andThen_ok];simp
theorem alr[af]{nl:Nat->aj}(hI:Inv w0 L0 N vs T a w L)(hid:(T.getD d .dead).idle=true){q':List Nat}
  (h:aU (gj d q o0 m ms) w L nl k = .own d q') (hk:k<w.heap.size):ms≠[]/\0<m:=by
 unfold aU at h;rw[if_pos hk]at h;obtain⟨s0,q0,e0,f0⟩:=eZ h;unfold gj at f0;split at f0
 ·rename_i p hp;refine⟨λe=>(by rw[e]at hp;cases hp),?_⟩;split at f0
  ·split at f0
   ·split at f0
    ·omega
    ·cases f0
   ·cases f0
  ·cases f0
 ·split at f0
  ·cases f0
  ·rename_i h1 h2;injection f0 with f0 _;exact absurd f0 h2
theorem aq2[af](hI:Inv w0 L0 N vs T a w L)(hC:bD P C){X:TypeId}{parts:Array (Nat×Operand)}(ho:o.op = .build X parts)(aB:o.dst=some d)
  (hd:d<N) (hid:(T.getD d .dead).idle=true) (h:(I8 C vs X d parts.toList).ai T ups log):Step P o w0 L0 N vs (ah T ups) a w:=by
 unfold I8 at h;split at h
 ·rename_i t hX;split at h
  ·rename_i cT;split at h
   ·rename_i hpe;obtain⟨rfl,_⟩:=h;obtain⟨i,z,i1,i2,i3,i4,i5⟩:=(hC X _ hX).info;obtain⟨m,e,te,hu,he,_⟩:=((hC X _ hX).b7).resolve_left (λh=>by rw[cT]at h;cases h.1) |>.2;have hz:z.cells=t.cu.toArray:=by rw[Form.agg i5];rfl
    have my:parts.toList=[]:=by simpa using hpe
    have hs:=(hC _ _ he).run_sizeOf (w:=w);intro K Q hK;refine aL.inv hI hd hid aB (aL.still hI (v:=.d none t.depth (.agg t) t.zero) (c:=.agg t.cu.toArray) ?_ (λ_=>rfl) ⟨by simp,t.cu,by simp[Form],?_⟩) hK
    ·simp only[execOp,ho,Instr.build,Sem.run_bind,zeroValue,Go.run_typeInfo w i1,Result.andThen_ok,i4,Sem.run_pure,run_underlying hu,hs,hz,Array.toList_map,my,List.map_nil,Instr.fill]
    ·simp only[Own];exact Own.zero
   ·exact h.elim
  rename_i cT;have cT:t.eN=false:=by simpa using cT
  obtain⟨b,l1,l2,rfl,h1,h2⟩:=M.aq h;split at h2
  ·rename_i hc;obtain⟨hn,hv⟩:=hc;obtain⟨rfl,_⟩:=h2;obtain⟨i,z,i1,i2,i3,i4,i5⟩:=(hC X _ hX).info;obtain⟨⟨fs,hu,nK,iR⟩,_⟩:=(hC X _ hX).str cT;have hz:z.cells=t.cu.toArray:=by rw[Form.agg i5];rfl
   let g:Field->Nat:=λf=>match C.ty f.type with|some t1=>t1.sz|none=>0
   have hg:∀f∈fs.toList,(sizeOf f.type).run P w = .ok (g f) w:=by
    intro f hf;obtain⟨j,hj⟩:=List.mem_iff_getElem?.1 hf;obtain⟨t1,_,h4,_⟩:=nK j f (by simpa using hj);have:=(hC _ _ h4).run_sizeOf (w:=w);simp[g,h4,this]
   have amR:∀j r,bB j t=some r->(fs.map λf=>(f.offset,g f))[0+j]?=some (0+r.1,r.2.sz):=by
    intro j r hr;have ax:=iR j r hr;obtain⟨t1,h3,h4,_⟩:=nK j fs[j] (Array.getElem?_eq_getElem ax);rw[hr]at h3;injection h3 with h3;subst h3;simp[ax,g,h4]
   obtain⟨cw,wE⟩:=Wb hI h1 (place:=λi=>(fs.map λf=>(f.offset,g f))[i]?) (cells:=t.cu.toArray) amR (by simp[Ty.jN,List.take_of_length_le]) (by simp[Ty.jN]);have aP:(execOp a.eval o).run P w = .ok (.value (.agg cw)) w:=by
    have hf:=wE.fill;simp only[Instr.fill]at hf;simp only[execOp,ho,Instr.build,Sem.run_bind,zeroValue,Go.run_typeInfo w i1,Result.andThen_ok,i4,Sem.run_pure,run_underlying hu,aqy hg,hz,Array.toList_map,hf]
   have hlen:cw.size=t.sz:=by rw[wE.size];simp[Ty.jN]
   refine Step.value aB aP (Inv.W9 (q:=[]) (o0:=0) (m:=b.n.getD t.depth) (nl:=λ_=>.free) hI hd hid wE.qX hn wE.src ?_ (Wd.refl hI _) (λ_ _=>rfl) (λ_ _ _ _ h=>by cases h) (λ_ _ _ _ h=>by cases h) rfl ?_ ?_)
   ·intro s hs bf;obtain⟨p,hp,rfl⟩:=List.mem_map.1 hs;rw[List.all_eq_true]at hv;have:=hv p hp;simp[bf]at this
   ·intro k q' hk;by_cases ax:k<w.heap.size
    ·obtain⟨e1,e2⟩:=alr hI hid hk ax;have:=aaD h1 e1;simp only[V.aM,Ty.depth,Bool.and_eq_true,bne_iff_ne];exact⟨by omega,this⟩
    ·unfold aU at hk;rw[if_neg ax]at hk;cases hk
   ·intro T' tm';refine⟨by simp,cw.toList,by simp[Form],?_⟩;simp only[Own];have:=wE.own (aU (gj d [] 0 (b.n.getD t.depth) b.ms) w L (λ_=>.free)) w d [] 0 (b.n.getD t.depth) (λn hn=>by rw[hn];exact Nat.le_refl _)
     (λk hk=>eD hI hk) (λ_ _=>rfl) (Xb hI hn)
    simpa[List.take_of_length_le,hlen]using this
  ·exact h2.elim
 ·exact h.elim
structure adw (T:List V) (a:Act) (w:World) (L:Nat->aj) (place:Nat->Option (Nat×Nat)) (cells:Array Value) (dy:List (Nat×Value)) (j:Nat) (t:Ty) (left:Nat) (b:Bs t) (cw:Array Value):Prop where
 fill:Instr.fill place cells dy=some cw
 size:cw.size=cells.size
 out:∀i,(i<j*t.sz\/(j+left)*t.sz<=i)->cw[i]?=cells[i]?
 src:r5 T (j*t.sz) ((j+left)*t.sz) b.n b.ms
 qX:fc (j*t.sz) b.ms
 len:b.xs.length=left
 dep:b.ms≠[]->t.depth≠0
 own:∀(L':Nat->aj) (w':World) d q o0 m,(∀n,b.n=some n->m<=n)->(∀k,L k = .au->L' k = .au)->(∀k,L k ≠ .free->w'.heap[k]?=w.heap[k]?)->lS L L' d q o0 m b.ms ->
  ∀i (h:i<b.xs.length),Own w' L' (SL L' none) d m t (b.xs[i]) q (o0+(j+i)*t.sz) ((cw.toList.drop ((j+i)*t.sz)).take t.sz)
theorem abm[af](hI:Inv w0 L0 N vs T a w L){place:Nat->Option (Nat×Nat)}(hp:∀i,place i=some (i*t.sz,t.sz)):{left j:Nat}->{parts:List (Nat×Operand)}->{b:Bs t}->{log:List Nat}->{cells:Array Value} ->
  (xL C t j left parts).ai T b log->(∀i,j<=i->i<j+left->(cells.toList.drop (i*t.sz)).take t.sz=t.cu)->(j+left)*t.sz<=cells.size ->
  ∃cw,adw T a w L place cells (parts.map λp=>(p.1,a.eval p.2)) j t left b cw
 | 0,j,parts,b,log,cells,h,hz,hb=>by
  simp only[xL]at h;split at h
  ·rename_i he;obtain⟨rfl,_⟩:=h;have:parts=[]:=by simpa using he
   subst this;exact⟨cells,rfl,rfl,λ_ _=>rfl,λ_ _ _ h=>(by cases h),trivial,rfl,λh=>absurd rfl h,λ_ _ _ _ _ _ _ _ _ _ i h=>absurd h (by simp)⟩
  ·exact h.elim
 | left+1,j,parts,b,log,cells,h,hz,hb=>by
  simp only[xL]at h;obtain⟨⟨b1,xH⟩,l1,l2,rfl,h1,h2⟩:=M.aq h;obtain⟨r,l3,l4,rfl,h3,h4⟩:=M.aq h2;obtain⟨rfl,_⟩:=h4;have e1:(j+1)*t.sz=j*t.sz+t.sz:=by rw[Nat.add_mul,Nat.one_mul]
  have e2:j+1+left=j+(left+1):=by omega
  have e3:(j+1)*t.sz<=(j+(left+1))*t.sz:=Nat.mul_le_mul_right _ (by omega);obtain⟨c1,f1⟩:=JF hI h1 (place:=place) (cells:=cells) (hp j) (hz j (Nat.le_refl _) (by omega)) (by omega);have fP:∀i,j+1<=i->(c1.toList.drop (i*t.sz)).take t.sz=(cells.toList.drop (i*t.sz)).take t.sz:=λi hi =>
   uc (λk hk1 gT=>f1.out k (.inr (by have:=Nat.mul_le_mul_right t.sz hi;omega)))
  obtain⟨c2,f2⟩:=abm hI hp (cells:=c1) h3 (λi wH dq=>by rw[fP i wH];exact hz i (by omega) (by omega)) (by rw[f1.size,e2];exact hb);refine⟨c2,f1.fill.trans f2.fill,f2.size.trans f1.size,λi hi=>?_,?_,?_,by simp[f2.len],λbo=>?_,λL' w' d q o0 m k1 k2 k3 k4 i hi=>?_⟩
  ·rw[f2.out i (by rw[e2];omega),f1.out i (by omega)]
  ·intro s o' sz hm;rcases List.mem_append.1 hm with hm|hm
   ·exact (f1.src.mono (Nat.le_refl _) (by omega) (λk hk=>aao hk)) s o' sz hm
   ·exact (f2.src.mono (by omega) (by rw[e2];exact Nat.le_refl _) (λk hk=>aap hk)) s o' sz hm
  ·exact f1.qX.append (by omega) (λs o' sz hm=>(f1.src s o' sz hm).2.1) (by rw[<-e1];exact f2.qX)
  ·by_cases h:b1.ms=[]
   ·exact f2.dep (λe=>bo (by simp[h,e]))
   ·exact Lp h1 h
  ·cases i with
   | zero =>
    simp only[Nat.add_zero,List.getElem_cons_zero];rw[uc (cur:=c1) (cur':=c2) (λk hk1 gT=>f2.out k (.inl (by omega)))];exact f1.own L' w' d q o0 m (λn hn=>aam k1 hn) k2 k3 k4.left
   | succ i =>
    simp only[List.length_cons]at hi;have:=f2.own L' w' d q o0 m (λn hn=>aan k1 hn) k2 k3 k4.right i (by omega);rw[show j+1+i=j+(i+1)by omega]at this;simpa using this
theorem aro[af](hI:Inv w0 L0 N vs T a w L)(hC:bD P C){o:Oper}{X:TypeId}{len:Nat}{parts:Array (Nat×Operand)}(ho:o.op = .buildSlice X len parts)(aB:o.dst=some d)
  (hd:d<N) (hid:(T.getD d .dead).idle=true) (h:(LZ C vs X d len parts.toList).ai T ups log):Step P o w0 L0 N vs (ah T ups) a w:=by
 unfold LZ at h;split at h
 ·rename_i e t hX;obtain⟨b,l1,l2,rfl,h1,h2⟩:=M.aq h;split at h2
  ·rename_i hc;obtain⟨hn,hv,hsm,axP⟩:=hc;obtain⟨rfl,_⟩:=h2;obtain⟨hu,he⟩:=(hC X _ hX).b7;obtain⟨i,z,i1,i2,i3,i4,i5⟩:=(hC e t he).info;have ee:∀v∈t.cu,v.oneCell'=true:=Own.one (Own.zero (w:=w) (L:=L) (S:=λ_=>True) (s:=0) (n:=0) (t:=t) (q:=[]) (o:=0));have jt:=Form.cells i5 ee;have bq:z.cells.size=t.sz:=by rw[<-Array.length_toList,jt,Ty.jN]
   let cells:Array Value:=(Array.range (len*t.sz)).map (z.cells[· % z.cells.size]!);have J4:∀i,i<len->(cells.toList.drop (i*t.sz)).take t.sz=t.cu:=by
    intro i hi;have:=Lg z.cells len i hi;rw[bq]at this;rw[<-jt];show (((Array.range (len*t.sz)).map (z.cells[· % z.cells.size]!)).toList.drop (i*t.sz)).take t.sz=_;rw[bq];exact this
   have dh:cells.size=len*t.sz:=by simp[cells]
   obtain⟨cw,hf⟩:=abm hI (place:=λi=>some (i*t.sz,t.sz)) (λ_=>rfl) (cells:=cells) h1 (λi _ hi=>J4 i (by omega)) (by rw[dh];simp);have aP:(execOp a.eval o).run P w = .ok (.value (.slice (some ⟨w.heap.size,0,none⟩) len len)) (w.alloc (.cells cw e)):=by
    by_cases hl:len=0
    ·subst hl;have CW:cells=#[]:=by simp[cells]
     have eA:cw=#[]:=by
      have:=hf.size;rw[dh]at this;simpa using this
     have mf:=hf.fill;rw[CW,eA]at mf;rw[eA];simp only[execOp,ho,Instr.buildSlice,Sem.run_bind,run_underlying hu,Result.andThen_ok,(hC e t he).run_sizeOf,Nat.zero_mul];simp only[Array.toList_map];simp only[Array.range_zero',Array.map_empty,mf,sizeOf,Go.run_typeInfo w i1];simp[mf,newRow,newObj,Sem.run]
    ·have hb:=run_buildSlice (P:=P) w X e len (parts.map λ(i,x)=>(i,a.eval x)) cw i z hu i1 i4 (by rw[i2];omega) (by rw[i2];intro h;rcases Nat.mul_eq_zero.1 h with h|h<;>omega) (by
      rw[i2];have:=hf.fill;simpa[cells]using this)
     simp[execOp,ho,hb]
   refine Step.value aB aP (Inv.W9 (q:=[0]) (o0:=0) (m:=b.n.getD t.depth) (nl:=λk=>if k=w.heap.size then .own d [0]else .free) hI hd hid hf.qX hn hf.src ?_ ?_ ?_ ?_ ?_ rfl ?_ ?_)
   ·intro s hs bf;obtain⟨p,hp,rfl⟩:=List.mem_map.1 hs;rw[List.all_eq_true]at hv;have:=hv p hp;simp[bf]at this
   ·refine⟨rfl,rfl,rfl,by simp,Nat.le_refl _,λk hk _=>Go.RowKit.Below.heap_alloc w _ k hk,λk hk=>?_,λk s q hk h=>?_⟩
    ·simp at hk;rw[if_neg (by omega)]
    ·split at h
     ·injection h with h _;exact .inl h.symm
     ·cases h
   ·exact λk hk=>Go.RowKit.Below.heap_alloc w _ k hk
   ·intro k k' q' hk h h';split at h
    ·rename_i hkk;injection h with _ h;subst h;unfold aU at h';split at h'
     ·exfalso;obtain⟨s0,q0,e0,f0⟩:=eZ h';rcases sK f0 with⟨_,_,_,_,_,_,_,h8⟩|⟨_,h7,h8,_⟩
      ·have:=congrArg List.length h8;simp at this
      ·exact h7 h8.symm
     ·dsimp only at h';split at h'
      ·omega
      ·cases h'
    ·cases h
   ·intro k s q' hk h;split at h
    ·injection h with h _;exact h.symm
    ·cases h
   ·intro k q' hk;simp[V.aM,Ty.depth]
   ·intro T' tm';refine⟨by simp,_,rfl,?_⟩;simp only[Own];have hL:aU (gj d [0] 0 (b.n.getD t.depth) b.ms) w L (λk=>if k=w.heap.size then .own d [0]else .free) w.heap.size = .own d [0]:=by
     unfold aU;rw[if_neg (by omega)];simp
    refine .inr ⟨w.heap.size,len,cw,by rw[hf.len],by simpa using hL,o3 _ _,by rw[hf.len];exact Nat.le_refl _,?_,by rw[hf.size,dh],λj hj=>?_⟩
    ·unfold maxLen;have:len<=len*t.sz:=Nat.le_mul_of_pos_right _ (by omega);omega
    ·have:=hf.own (aU (gj d [0] 0 (b.n.getD t.depth) b.ms) w L (λk=>if k=w.heap.size then .own d [0]else .free)) (w.alloc (.cells cw e)) d [0] 0 (b.n.getD t.depth) (λn hn=>by rw[hn];exact Nat.le_refl _)
      (λk hk=>eD hI hk) (λk hk=>Go.RowKit.Below.heap_alloc w _ k (hI.lt hk)) (Xb hI hn) j hj
     simpa using this
  ·exact h2.elim
 ·exact h.elim
end
abbrev Rec:=List Nat×List (Nat×V)
def Rec.wr(r:Rec):List Nat:=r.2.map (·.1)
def Rec.rd(r:Rec):List Nat:=r.1++r.wr
def du(D:Nat->Bool):Nat->List Rec->List V->List V
 | _,[],T=>T
 | i,r::rs,T=>du D (i+1) rs (if D i=true then ah T r.2 else T)
theorem jd[af](D:Nat->Bool):{i:Nat}->{rs:List Rec}->{T:List V}->(du D i rs T).length=T.length
 | _,[],_=>rfl
 | i,r::rs,T=>by
  simp only[du];rw[jd];split
  ·exact cH _ _
  ·rfl
theorem aby[af]{T T':List V}{s:Nat}(hl:T.length=T'.length)(h:T.getD s .dead=T'.getD s .dead):(ah T ups).getD s .dead=(ah T' ups).getD s .dead:=by
 unfold ah;induction ups generalizing T T' with
 | nil=>exact h
 | cons u l ih =>
  simp only[List.foldl_cons];refine ih (by simp[hl]) ?_;rw[aH,aH,hl,h]
theorem xP[af]{D D':Nat->Bool}{s:Nat}:{i:Nat}->{rs:List Rec}->{T T':List V}->T.length=T'.length->T.getD s .dead=T'.getD s .dead ->
  (∀j r,rs[j]?=some r->s∈r.wr->D (i+j)=D' (i+j))->(du D i rs T).getD s .dead=(du D' i rs T').getD s .dead
 | _,[],_,_,_,h,_=>h
 | i,r::rs,T,T',hl,h,H=>by
  simp only[du];refine xP ?_ ?_ (λj r' hj hs=>?_)
  ·split<;>split<;>simp[cH,hl]
  ·by_cases hs:s∈r.wr
   ·have:=H 0 r rfl hs;simp only[Nat.add_zero]at this;rw[this];split
    ·exact aby hl h
    ·exact h
   ·have e1:=fg r.2 T s hs;have e2:=fg r.2 T' s hs;split<;>split<;>simp only[e1,e2,h]
  ·have:=H (j+1) r' (by simpa using hj) hs
   rwa [show i+1+j=i+(j+1)by omega]
theorem xQ{D:Nat->Bool}:{i:Nat}->{rs:List Rec}->{T:List V}->(∀j,i<=j->D j=false)->du D i rs T=T
 | _,[],_,_=>rfl
 | i,r::rs,T,h=>by
  simp only[du];rw[h i (Nat.le_refl _),if_neg (by simp)];exact xQ (λj hj=>h j (by omega))
theorem aqY[af]{n:Nat}:{i:Nat}->{rs:List Rec}->{T:List V}->{r:Rec}->rs[n]?=some r ->
  du (λj=>decide (j<i+n+1)) i rs T=ah (du (λj=>decide (j<i+n)) i rs T) r.2:=by
 induction n with
 | zero =>
  intro i rs T r h;cases rs with
  | nil=>simp at h
  | cons r' rs =>
   simp only[List.getElem?_cons_zero,Option.some.injEq]at h;subst h;simp only[du,Nat.add_zero];rw[if_pos (by simp),if_neg (by simp),xQ (λj hj=>by simp;omega),xQ (λj hj=>by simp;omega)]
 | succ n ih =>
  intro i rs T r h;cases rs with
  | nil=>simp at h
  | cons r' rs =>
   simp only[List.getElem?_cons_succ]at h;simp only[du];have:=ih (i:=i+1) (T:=if decide (i<i+(n+1))=true then ah T r'.2 else T) h
   rw[show i+1+n=i+(n+1)by omega]at this;rw[if_pos (by simp;omega)];rw[if_pos (by simp)]at this;rw[if_pos (by simp)];exact this
theorem Dv{T T':List V}(hl:T.length=T'.length)(h:∀s,T.getD s .dead=T'.getD s .dead):T=T':=by
 apply List.ext_getElem hl;intro i h1 h2;have:=h i;simpa[List.getD_eq_getElem?_getD,h1,h2]using this
theorem aqJ[af](hu:∀u∈ups,fI k u.1 u.2=true):∀{T:List V},(∀s,s<T.length->fI k s (T.getD s .dead)=true)->∀s,s<T.length->fI k s ((ah T ups).getD s .dead)=true:=by
 unfold ah;induction ups with
 | nil=>intro T h s hs;exact h s hs
 | cons u l ih =>
  intro T h s hs;simp only[List.foldl_cons];refine ih (λu' qu=>hu u' (by simp[qu])) (λs' bN=>?_) s (by simpa using hs);rw[aH];split
  ·rename_i he;rw[he.1];exact hu u (by simp)
  ·exact h s' (by simpa using bN)
theorem abG[af]{D:Nat->Bool}:{i:Nat}->{rs:List Rec}->{T:List V}->(∀r∈rs,∀u∈r.2,fI k u.1 u.2=true)->(∀s,s<T.length->fI k s (T.getD s .dead)=true)->∀s,s<T.length->fI k s ((du D i rs T).getD s .dead)=true
 | _,[],_,_,h=>h
 | i,r::rs,T,hr,h=>by
  simp only[du];intro s hs;refine abG (λr' aZ=>hr r' (by simp[aZ])) (λs' bN=>?_) s ?_
  ·split
   ·exact aqJ (hr r (by simp)) h s' (by split at bN<;>simpa[cH]using bN)
   ·exact h s' (by split at bN<;>simpa[cH]using bN)
  ·split
   ·rw[cH];exact hs
   ·exact hs
theorem aqX[af]{D:Nat->Bool}{i:Nat}{rs:List Rec}{T:List V}(hr:∀r∈rs,∀u∈r.2,fI k u.1 u.2=true)(h:ey k T=true):ey k (du D i rs T)=true:=by
 unfold ey at h ⊢;rw[Bool.and_eq_true]at h ⊢;rw[jd];refine⟨IM λs hs=>?_,h.2⟩;rw[Nat.zero_add];rw[jd]at hs;exact abG hr (λs' bN=>by have:=vL h.1 s' bN;rwa [Nat.zero_add]at this) s hs
section
variable{ops:Array Oper}{md:Region.Mode}
theorem akR{e:Edge}(h:Region.binds .any e=true):Region.binds md e=true:=by
 unfold Region.binds at *
 split<;>simp_all
def Ordered(ops:Array Oper):List Nat->List Nat->Prop
 | _,[]=>True
 | done,i::l=>i∉done/\i<ops.size/\(∀o,ops[i]?=some o->∀e∈o.after.toList,Region.binds .any e=true->e.on∈done)/\Ordered ops (i::done) l
theorem aad[af]:∀(fuel t:Nat) (listed:Array Bool) (done:List Nat),listed.size=ops.size->(∀i,i<ops.size->(listed.getD i false=true↔i∈done))->Ordered ops done (Region.linearise.go md ops fuel t listed []):=by
 intro fuel;induction fuel with
 | zero=>intro t listed done _ _;simp[Region.linearise.go,Ordered]
 | succ fuel ih =>
  intro t listed done bq h;simp only[Region.linearise.go];split
  ·rename_i i hi;rw[linearise_go_acc];simp only[List.reverse_cons,List.reverse_nil,List.nil_append,List.singleton_append];have hm:=List.mem_of_getElem? hi;simp only[List.mem_filter,List.mem_range,Bool.and_eq_true,Bool.not_eq_true']at hm;obtain⟨ax,hl,sS⟩:=hm;have dT:listed.getD i false=false:=by
    have Ki:i<listed.size:=by omega
    simp only[Array.getD_eq_getD_getElem?,Array.getElem?_eq_getElem Ki,Option.getD_some]at hl ⊢;exact hl
   refine⟨λhd=>?_,ax,λo ho e he hb=>?_,?_⟩
   ·rw[(h i ax).2 hd]at dT;cases dT
   ·rw[ho]at sS;simp only[Option.map_some,Option.getD_some,Array.all_eq_true_iff_forall_mem,Bool.or_eq_true,Bool.not_eq_true']at sS;have:=sS e (by simpa using he);rw[akR hb]at this;simp only[Bool.true_eq_false,false_or]at this;have ag:e.on<ops.size:=by
     rcases Nat.lt_or_ge e.on ops.size with h|h
     ·exact h
     ·simp[Array.getD_eq_getD_getElem?,Array.getElem?_eq_none (show listed.size<=e.on by omega)]at this
    exact (h e.on ag).1 this
   ·refine ih _ _ _ (by simp[bq]) (λj hj=>?_);simp only[Array.getD_eq_getD_getElem?,Array.getElem?_setIfInBounds,List.mem_cons];by_cases cR:i=j
    ·subst cR;simp[bq,ax]
    ·have:=h j hj;simp only[Array.getD_eq_getD_getElem?]at this;simp[cR,this,Ne.symm cR]
  ·simp[Ordered]
theorem aaL:∀(n:Nat) (l:List Nat),l.Nodup->(∀x∈l,x<n)->l.length<=n
 | 0,l,_,h=>by
  cases l with
  | nil=>simp
  | cons x l=>exact absurd (h x (by simp)) (by omega)
 | n+1,l,hn,h=>by
  have h1:=aaL n (l.filter (· != n)) (hn.filter _) (λx hx=>by
   simp only[List.mem_filter,bne_iff_ne]at hx;have:=h x hx.1;omega)
  by_cases hm:n∈l
  ·have:l.length<=(l.filter (· != n)).length+1:=by
    clear h h1;induction l with
    | nil=>simp
    | cons x l ih =>
     rw[List.nodup_cons]at hn;by_cases hx:x=n
     ·subst hx;have:l.filter (· != x)=l:=by
       rw[List.filter_eq_self];intro y hy;simp only[bne_iff_ne]
       rintro rfl
       exact hn.1 hy
      simp[this]
     ·rw[List.filter_cons_of_pos (by simpa using hx)];have:=ih hn.2 (by rcases List.mem_cons.1 hm with h|h;exact absurd h.symm hx;exact h);simp only[List.length_cons];omega
   omega
  ·have:l.filter (· != n)=l:=by
    rw[List.filter_eq_self];intro y hy;simp only[bne_iff_ne]
    rintro rfl
    exact hm hy
   rw[this]at h1;omega
theorem apl[af](hb:∀(i:Nat) (o:Oper),ops[i]?=some o->∀e∈o.after.toList,Region.binds md e=true->e.on<i):∀(fuel t:Nat) (listed:Array Bool) (done:List Nat),listed.size=ops.size->(∀i,i<ops.size->(listed.getD i false=true↔i∈done)) ->
  ops.size<=done.length+fuel->done.Nodup->(∀i∈done,i<ops.size)->∀i,i<ops.size->i∈done\/i∈Region.linearise.go md ops fuel t listed []:=by
 intro fuel;induction fuel with
 | zero =>
  intro t listed done bq h hle cG gm i hi;left;apply Classical.byContradiction;intro ql;have h1:(i::done).Nodup:=List.nodup_cons.2 ⟨ql,cG⟩;have:=aaL ops.size (i::done) h1 (λj hj=>by
   rcases List.mem_cons.1 hj with rfl|hj
   ·exact hi
   ·exact gm j hj)
  simp at this;omega
 | succ fuel ih =>
  intro t listed done bq h hle cG gm i hi;simp only[Region.linearise.go];split
  ·rename_i j hj;rw[linearise_go_acc];simp only[List.reverse_cons,List.reverse_nil,List.nil_append,List.singleton_append,List.mem_cons];have hm:=List.mem_of_getElem? hj;simp only[List.mem_filter,List.mem_range,Bool.and_eq_true,Bool.not_eq_true']at hm;obtain⟨ax,hl,sS⟩:=hm;have lf:j∉done:=λhd=>by
    have:=(h j ax).2 hd;have Ki:j<listed.size:=by omega
    simp only[Array.getD_eq_getD_getElem?,Array.getElem?_eq_getElem Ki,Option.getD_some]at hl this;rw[this]at hl;cases hl
   rcases ih (t / _) (listed.setIfInBounds j true) (j::done) (by simp[bq]) (λk hk=>by
    simp only[Array.getD_eq_getD_getElem?,Array.getElem?_setIfInBounds,List.mem_cons];by_cases cR:j=k
    ·subst cR;simp[bq,ax]
    ·have:=h k hk;simp only[Array.getD_eq_getD_getElem?]at this;simp[cR,this,Ne.symm cR]) (by simp only[List.length_cons];omega) (List.nodup_cons.2 ⟨lf,cG⟩) (λk hk=>by
     rcases List.mem_cons.1 hk with rfl|hk
     ·exact ax
     ·exact gm k hk) i hi with h'|h'
   ·rcases List.mem_cons.1 h' with rfl|h'
    ·exact .inr (.inl rfl)
    ·exact .inl h'
   ·exact .inr (.inr h')
  ·rename_i cB;left;apply Classical.byContradiction;intro ql;have hex:∃k,k<ops.size/\k∉done/\∀k',k'<k->k'∈done:=by
    have key:∀n,(∃k,k<n/\k∉done/\k<ops.size)->∃k,k<ops.size/\k∉done/\∀k',k'<k->k'∈done:=by
     intro n;induction n with
     | zero=>rintro⟨k,hk,_⟩;omega
     | succ n ihn =>
      rintro⟨k,hk,wN,kj⟩
      by_cases dS:∀k',k'<k->k'∈done
      ·exact⟨k,kj,wN,dS⟩
      ·obtain⟨k',aI⟩:=Classical.not_forall.1 dS;obtain⟨h1,h2⟩:=Classical.not_imp.1 aI;exact ihn ⟨k',by omega,h2,by omega⟩
    exact key (i+1) ⟨i,by omega,ql,hi⟩
   obtain⟨k,kj,wN,dS⟩:=hex;have amY:k∈(List.range ops.size).filter λi => !listed.getD i true&&((ops[i]?).map (·.after.all λe => !Region.binds md e||listed.getD e.on false)).getD false:=by
    simp only[List.mem_filter,List.mem_range,Bool.and_eq_true,Bool.not_eq_true'];refine⟨kj,?_,?_⟩
    ·have aI:k<listed.size:=by omega
     have h3:¬(listed.getD k false=true):=λe=>wN ((h k kj).1 e);simp only[Array.getD_eq_getD_getElem?,Array.getElem?_eq_getElem aI,Option.getD_some]at h3 ⊢;simpa using h3
    ·rw[Array.getElem?_eq_getElem kj];simp only[Option.map_some,Option.getD_some,Array.all_eq_true_iff_forall_mem,Bool.or_eq_true];intro e he;cases sU:Region.binds md e with
     | false=>exact .inl rfl
     | true =>
      have ax:=hb k _ (Array.getElem?_eq_getElem kj) e (by simpa using he) sU;exact .inr ((h e.on (by omega)).2 (dS _ ax))
   have hlen:0<((List.range ops.size).filter λi => !listed.getD i true&&((ops[i]?).map (·.after.all λe => !Region.binds md e||listed.getD e.on false)).getD false).length:=List.length_pos_of_mem amY;have:=List.getElem?_eq_none_iff.1 cB;have h4:=Nat.mod_lt t hlen;omega
theorem aqC[af]{mixed:Bool}{t:Nat}:Ordered ops [] (Region.schedule mixed ops t):=by
 unfold Region.schedule;split
 ·exact aad _ _ _ _ (by simp) (λi hi=>by simp[Array.getD_eq_getD_getElem?,hi])
 ·exact aad _ _ _ _ (by simp) (λi hi=>by simp[Array.getD_eq_getD_getElem?,hi])
theorem aqB[af](hb:∀(i:Nat) (o:Oper),ops[i]?=some o->∀e∈o.after.toList,Region.binds .any e=true->e.on<i){t:Nat}:∀i,i<ops.size->i∈Region.schedule true ops t:=by
 intro i hi;unfold Region.schedule;rw[if_pos (by simp)];exact (apl hb _ _ _ [] (by simp) (λi hi=>by simp[Array.getD_eq_getD_getElem?,hi]) (by simp) (by simp) (by simp) i hi).resolve_left (by simp)
def gg:List Oper->List Nat->List Nat
 | [],acc=>acc
 | o::l,acc=>gg l (acc++[o.after.foldl (λs e=>if Region.binds .any e=true then s ||| 2 ^ e.on ||| acc.getD e.on 0 else s) 0])
def Closed(ops:Array Oper)(D:Nat->Prop):Prop:=∀i,D i->∀o,ops[i]?=some o->∀e∈o.after.toList,Region.binds .any e=true->D e.on
theorem WT{acc:List Nat}:{es:List Edge}->{s0:Nat}->(es.foldl (λs e=>if Region.binds .any e=true then s ||| 2 ^ e.on ||| acc.getD e.on 0 else s) s0).testBit k=true ->
  s0.testBit k=true\/∃e∈es,Region.binds .any e=true/\(e.on=k\/(acc.getD e.on 0).testBit k=true)
 | [],_,h=>.inl h
 | e::es,s0,h=>by
  simp only[List.foldl_cons]at h;rcases WT h with h|⟨e',he',h1,h2⟩
  ·split at h
   ·rename_i hb;simp only[Nat.testBit_or,Bool.or_eq_true]at h;rcases h with (h|h)|h
    ·exact .inl h
    ·refine .inr ⟨e,by simp,hb,.inl ?_⟩;rw[Nat.testBit_two_pow]at h;simpa using h
    ·exact .inr ⟨e,by simp,hb,.inr h⟩
   ·exact .inl h
  ·exact .inr ⟨e',by simp[he'],h1,h2⟩
theorem aa8[af]{D:Nat->Prop}(hD:Closed ops D):{l:List Oper}->{acc:List Nat}->(∀j o,l[j]?=some o->ops[acc.length+j]?=some o) ->
  (∀j k,D j->(acc.getD j 0).testBit k=true->D k)->∀j k,D j->((gg l acc).getD j 0).testBit k=true->D k
 | [],acc,_,h=>h
 | o::l,acc,ho,h=>by
  simp only[gg];refine aa8 hD (λj o' hj=>?_) (λj k hj hk=>?_)
  ·have:=ho (j+1) o' (by simpa using hj);rw[show acc.length+(j+1)=(acc++[o.after.foldl (λs e=>if Region.binds .any e=true then s ||| 2 ^ e.on ||| acc.getD e.on 0 else s) 0]).length+j by simp;omega]at this
   exact this
  ·rw[List.getD_eq_getElem?_getD]at hk;by_cases ax:j<acc.length
   ·rw[List.getElem?_append_left ax]at hk;exact h j k hj (by rw[List.getD_eq_getElem?_getD];exact hk)
   ·by_cases he:j=acc.length
    ·subst he;rw[List.getElem?_append_right (Nat.le_refl _)]at hk;simp only[Nat.sub_self,List.getElem?_cons_zero,Option.getD_some]at hk;rw[<-Array.foldl_toList]at hk;rcases WT hk with hk|⟨e,he,hb,hk⟩
     ·simp at hk
     ·have h0:=ho 0 o rfl;have ag:=hD _ hj o h0 e he hb;rcases hk with rfl|hk
      ·exact ag
      ·exact h _ _ ag hk
    ·rw[List.getElem?_eq_none (by simp;omega)]at hk;simp at hk
end
def MN(P:Program)(ops:Array Oper)(J:List V->Act->World->Prop)(Q:Exit->Act->World->Prop)(o:Oper)(T T':List V):Prop :=
 ∀(a:Act) (w:World),J T a w->∀K:Act->World->Prop,(∀a' w',J T' a' w'->K a' w') ->
  if Region.wanted o (yielded ops a.tmps)=true then o.wp P a w K Q else K (a.put o.dst undef) w
def VN(ops:Array Oper)(recs:List Rec):Prop :=
 ∀i j ri rj,i<j->recs[i]?=some ri->recs[j]?=some rj->(∃s,s<bp/\((s∈ri.wr/\s∈rj.rd)\/(s∈rj.wr/\s∈ri.rd))) ->
  ((gg ops.toList []).getD j 0).testBit i=true
section
variable{P:Program}{ops:Array Oper}{J:List V->Act->World->Prop}{Q:Exit->Act->World->Prop}{N:Nat}{recs:List Rec}{T0:List V}
theorem ack{i:Nat}{l:List Nat}{a:Act}{w:World}(ho:ops[i]?=some o)
  (h:if Region.wanted o (yielded ops a.tmps)=true then o.wp P a w (wpOps P ops Q l) Q else wpOps P ops Q l (a.put o.dst undef) w):wpOps P ops Q (i::l) a w:=by
 simp only[wpOps,ho];split
 ·rename_i hw;rw[if_pos hw]at h;exact .inl h
 ·rename_i hw;rw[if_neg hw]at h;exact h
theorem aak{r:Rec}{s:Nat}(h:s∈r.wr):s∈r.rd:=List.mem_append_right _ h
theorem abg[af](qa:T0.length=N)(hN:N<=bp)(hn:recs.length=ops.size)(CV:∀r∈recs,∀s∈r.1,bp<=s->ey s T0=true/\∀r'∈recs,∀u∈r'.2,fI s u.1 u.2=true)
  (X8:∀i o r,ops[i]?=some o->recs[i]?=some r->∀T,T.length=N->(∀s∈r.rd,s<bp->T.getD s .dead=(du (λj=>decide (j<i)) 0 recs T0).getD s .dead)->(∀s∈r.1,bp<=s->ey s T=true)->MN P ops J Q o T (ah T r.2))
  (hc:VN ops recs) (hQ:∀a' w',J (du (λ_=>true) 0 recs T0) a' w'->Q .normal a' w') :
  ∀(l done:List Nat),Ordered ops done l->Closed ops (· ∈ done)->(∀i,i<ops.size->i∈done\/i∈l)->∀a w,J (du (λj=>done.contains j) 0 recs T0) a w->wpOps P ops Q l a w
 | [],done,_,_,dS,a,w,hJ=>by
  simp only[wpOps];apply hQ;have:du (λ_=>true) 0 recs T0=du (λj=>done.contains j) 0 recs T0:=by
   refine Dv (by rw[jd,jd]) (λs=>xP rfl rfl (λj r hj _=>?_));have ax:j<ops.size:=by
    rw[<-hn];exact (List.getElem?_eq_some_iff.1 hj).1
   have:=(dS j ax).resolve_right (by simp);simp[this]
  rw[this];exact hJ
 | i::l,done,⟨hid,ax,sS,Kl⟩,XJ,dS,a,w,hJ=>by
  obtain⟨r,hr⟩:∃r,recs[i]?=some r:=⟨_,List.getElem?_eq_getElem (by rw[hn];exact ax)⟩;have ho:ops[i]?=some ops[i]:=Array.getElem?_eq_getElem ax;refine ack ho ?_;have axK:∀k,((gg ops.toList []).getD i 0).testBit k=true->k∈i::done->True:=λ_ _ _=>trivial;have XK:Closed ops (· ∈ i::done):=by
   intro j hj o' mq e he hb;rcases List.mem_cons.1 hj with rfl|hj
   ·exact List.mem_cons_of_mem _ (sS o' mq e he hb)
   ·exact List.mem_cons_of_mem _ (XJ j hj o' mq e he hb)
  have Yo:∀{D:Nat->Prop},Closed ops D->∀j k,D j->((gg ops.toList []).getD j 0).testBit k=true->D k:=λhD j k hj hk =>
   aa8 hD (l:=ops.toList) (acc:=[]) (λj o hj=>by simpa using hj) (λj k _ h=>by simp at h) j k hj hk
  have XY:∀j rj s,recs[j]?=some rj->j≠i->s<bp->(s∈rj.wr/\s∈r.rd)->(done.contains j=decide (j<i)):=by
   intro j rj s hj cR ko hs;rcases Nat.lt_or_gt_of_ne cR with h|h
   ·have:=hc j i rj r h hj hr ⟨s,ko,.inl hs⟩;have:=Yo XK i j (by simp) this;have lf:j∈done:=by
     rcases List.mem_cons.1 this with rfl|h
     ·exact absurd rfl cR
     ·exact h
    simp[lf,h]
   ·have hp:=hc i j r rj h hr hj ⟨s,ko,.inr hs⟩;have lf:j∉done:=λlf=>hid (Yo XJ j i lf hp);simp[lf];omega
  have Xz:∀s∈r.rd,s<bp->(du (λj=>done.contains j) 0 recs T0).getD s .dead=(du (λj=>decide (j<i)) 0 recs T0).getD s .dead:=by
   intro s hs ko;refine xP rfl rfl (λj rj hj hw=>?_);simp only[Nat.zero_add];by_cases cR:j=i
   ·subst cR;simp[hid]
   ·exact XY j rj s hj cR ko ⟨hw,hs⟩
  have alK:=X8 i _ r ho hr _ (by rw[jd,qa]) Xz (λs hs hk=>by
   obtain⟨h1,h2⟩:=CV r (List.mem_of_getElem? hr) s hs hk;exact aqX h2 h1) a w hJ
  refine alK _ (λa' w' eK=>abg qa hN hn CV X8 hc hQ l (i::done) Kl XK (λk hk=>?_) a' w' ?_)
  ·rcases dS k hk with h|h
   ·exact .inl (by simp[h])
   ·rcases List.mem_cons.1 h with rfl|h
    ·exact .inl (by simp)
    ·exact .inr h
  ·have:du (λj=>(i::done).contains j) 0 recs T0=ah (du (λj=>done.contains j) 0 recs T0) r.2:=by
    refine Dv (by rw[jd,cH,jd]) (λs=>?_);by_cases ko:s<bp
    case neg=>rw[eJ (by rw[jd,qa];omega),eJ (by rw[cH,jd,qa];omega)]
    by_cases hs:s∈r.wr
    ·have h1:(ah (du (λj=>done.contains j) 0 recs T0) r.2).getD s .dead=(ah (du (λj=>decide (j<i)) 0 recs T0) r.2).getD s .dead :=
      aby (by rw[jd,jd]) (Xz s (aak hs) ko)
     have h2:=aqY (i:=0) (T:=T0) hr;simp only[Nat.zero_add]at h2;rw[h1,<-h2];refine xP rfl rfl (λj rj hj hw=>?_);simp only[Nat.zero_add];by_cases cR:j=i
     ·subst cR;simp
     ·have h3:=XY j rj s hj cR ko ⟨hw,aak hs⟩;simp only[List.contains_cons,h3];have:(j==i)=false:=by simpa using cR
      rw[this,Bool.false_or];simp;omega
    ·rw[fg _ _ _ hs];refine xP rfl rfl (λj rj hj hw=>?_);simp only[Nat.zero_add];have cR:j≠i:=by
      rintro rfl
      rw[hr]at hj;injection hj with hj;subst hj;exact hs hw
     simp[cR]
   rw[this];exact eK
def mask:List Nat->Nat
 | []=>0
 | s::l=>cond (Nat.blt s bp) (2 ^ s ||| mask l) (mask l)
theorem Dz{l:List Nat}{s:Nat}(h:s∈l)(hk:s<bp):(mask l).testBit s=true:=by
 induction l with
 | nil=>cases h
 | cons x l ih =>
  simp only[mask];cases hx:Nat.blt x bp with
  | true =>
   simp only[cond_true,Nat.testBit_or,Bool.or_eq_true];rcases List.mem_cons.1 h with rfl|h
   ·left;simp[Nat.testBit_two_pow]
   ·exact .inr (ih h)
  | false =>
   rcases List.mem_cons.1 h with rfl|h
   ·have:Nat.blt s bp=true:=by rw[Nat.blt_eq];exact hk
    rw[hx]at this;cases this
   ·exact ih h
def Ea(pj rj wj:Nat):Nat->List (Nat×Nat)->Bool
 | _,[]=>true
 | i,(ri,wi)::l=>((wi &&& rj==0&&wj &&& ri==0)||pj.testBit i)&&Ea pj rj wj (i+1) l
def lI:List Nat->List (Nat×Nat)->List (Nat×Nat)->Bool
 | pj::ps,done,(rj,wj)::l=>Ea pj rj wj 0 done&&lI ps (done++[(rj,wj)]) l
 | _,_,_=>true
theorem abY{pj rj wj:Nat}:{i:Nat}->{l:List (Nat×Nat)}->Ea pj rj wj i l=true->∀k ri wi,l[k]?=some (ri,wi)->(wi &&& rj=0/\wj &&& ri=0)\/pj.testBit (i+k)=true
 | _,[],_,k,ri,wi,hk=>by simp at hk
 | i,(r,w)::l,h,k,ri,wi,hk=>by
  simp only[Ea,Bool.and_eq_true,Bool.or_eq_true,beq_iff_eq]at h;cases k with
  | zero =>
   simp only[List.getElem?_cons_zero,Option.some.injEq,Prod.mk.injEq]at hk;obtain⟨rfl,rfl⟩:=hk;exact h.1
  | succ k =>
   have:=abY h.2 k ri wi (by simpa using hk)
   rwa [show i+1+k=i+(k+1)by omega]at this
theorem abZ[af]:{ps:List Nat}->{done l:List (Nat×Nat)}->lI ps done l=true->ps.length=l.length->∀k pj rj wj,ps[k]?=some pj->l[k]?=some (rj,wj) ->
  ∀i ri wi,i<done.length+k->(done++l)[i]?=some (ri,wi)->(wi &&& rj=0/\wj &&& ri=0)\/pj.testBit i=true
 | [],_,_,_,_,_,_,_,_,hk,_,_,_,_,_,_=>by simp at hk
 | p::ps,done,[],_,hl,_,_,_,_,_,_,_,_,_,_,_=>by simp at hl
 | p::ps,done,(r,w)::l,h,hl,k,pj,rj,wj,hk,hj,i,ri,wi,hi,wK=>by
  simp only[lI,Bool.and_eq_true]at h;cases k with
  | zero =>
   simp only[List.getElem?_cons_zero,Option.some.injEq,Prod.mk.injEq]at hk hj;subst hk;obtain⟨rfl,rfl⟩:=hj;rw[List.getElem?_append_left (by simpa using hi)]at wK;have:=abY h.1 i ri wi wK;simpa using this
  | succ k =>
   refine abZ h.2 (by simpa using hl) k pj rj wj (by simpa using hk) (by simpa using hj) i ri wi (by simp;omega) ?_;simpa using wK
theorem LN:{l:List Oper}->{acc:List Nat}->(gg l acc).length=acc.length+l.length
 | [],_=>rfl
 | o::l,acc=>by simp only[gg,LN,List.length_append,List.length_cons,List.length_nil];omega
theorem arE[af]{recs:List Rec}(hn:recs.length=ops.size)(h:lI (gg ops.toList []) [] (recs.map λr=>(mask r.rd,mask r.wr))=true):VN ops recs:=by
 intro i j ri rj nM hi hj hs;have ax:j<ops.size:=by rw[<-hn];exact (List.getElem?_eq_some_iff.1 hj).1
 have hp:(gg ops.toList [])[j]?=some ((gg ops.toList []).getD j 0):=by
  rw[List.getD_eq_getElem?_getD,List.getElem?_eq_getElem (by rw[LN];simpa using ax)];rfl
 have:=abZ h (by rw[LN];simp[hn]) j _ (mask rj.rd) (mask rj.wr) hp (by simp[hj]) i (mask ri.rd) (mask ri.wr) (by simpa using nM) (by simp[hi]);rcases this with⟨h1,h2⟩|h
 ·exfalso;obtain⟨s,ko,⟨ha,hb⟩|⟨ha,hb⟩⟩:=hs
  ·have:(mask ri.wr &&& mask rj.rd).testBit s=true:=by rw[Nat.testBit_and,Dz ha ko,Dz hb ko];rfl
   rw[h1]at this;simp at this
  ·have:(mask rj.wr &&& mask ri.rd).testBit s=true:=by rw[Nat.testBit_and,Dz ha ko,Dz hb ko];rfl
   rw[h2]at this;simp at this
 ·exact h
def kW:Nat->List Oper->Bool
 | _,[]=>true
 | i,o::l=>o.after.all (λe => !Region.binds .any e||decide (e.on<i))&&kW (i+1) l
theorem V4:{i:Nat}->{l:List Oper}->kW i l=true->∀(k:Nat) (o:Oper),l[k]?=some o->∀e∈o.after.toList,Region.binds .any e=true->e.on<i+k
 | _,[],_,k,o,hk,_,_,_=>by simp at hk
 | i,x::l,h,k,o,hk,e,he,sU=>by
  simp only[kW,Bool.and_eq_true]at h;cases k with
  | zero =>
   simp only[List.getElem?_cons_zero,Option.some.injEq]at hk;subst hk;have:=Array.all_eq_true_iff_forall_mem.1 h.1 e (by simpa using he);rw[sU]at this;simpa using this
  | succ k =>
   have:=V4 h.2 k o (by simpa using hk) e he sU;omega
theorem akO[af](h:kW 0 ops.toList=true):∀(i:Nat) (o:Oper),ops[i]?=some o->∀e∈o.after.toList,Region.binds .any e=true->e.on<i:=λi o ho e he sU=>by
 have:=V4 h i o (by simpa using ho) e he sU;simpa using this
def nt(T0:List V)(recs:List Rec):Bool:=recs.all λr=>r.1.all λs=>cond (Nat.blt s bp) true (ey s T0&&recs.all λr'=>r'.2.all λu=>fI s u.1 u.2)
theorem akL{T0:List V}{recs:List Rec}(h:nt T0 recs=true):∀r∈recs,∀s∈r.1,bp<=s->ey s T0=true/\∀r'∈recs,∀u∈r'.2,fI s u.1 u.2=true:=by
 intro r hr s hs hk;unfold nt at h;rw[List.all_eq_true]at h;have h1:=h r hr;rw[List.all_eq_true]at h1;have h2:=h1 s hs;have hb:Nat.blt s bp=false:=by
  rw[Bool.eq_false_iff];intro hb;rw[Nat.blt_eq]at hb;exact Nat.not_lt.2 hk hb
 rw[hb,cond_false,Bool.and_eq_true,List.all_eq_true]at h2;refine⟨h2.1,λr' aZ u hu=>?_⟩;have h3:=h2.2 r' aZ;rw[List.all_eq_true]at h3;exact h3 u hu
end
inductive Ex where
 | bJ
 | ext (id:Nat)
 | ret
def fm(ks:Nat):Nat->List V->List V
 | _,[]=>[]
 | i,v::l=>(cond (ks.testBit i) v .dead)::fm ks (i+1) l
def qG(ks:Nat)(T:List V):Nat->List V->Bool
 | _,[]=>true
 | i,v::l=>(!ks.testBit i||(match v.root with
  | none=>true
  | some r=>ks.testBit r || !(T.getD r .dead).aM))&&qG ks T (i+1) l
def fO(k:Nat):V->V
 | .d l n t x=>.d l (min k n) t x
 | .box l n t x=>.box l (min k n) t x
 | v=>v
def V.qA:V->Bool
 | .d .. =>true
 | .box .. =>true
 | _=>false
def V.lvl:V->Nat
 | .d _ n _ _=>n
 | .box _ n _ _=>n
 | _=>0
def tK(r:Nat):List V->Bool
 | []=>true
 | v::l => !v.on r&&tK r l
def qz(m:Nat)(T:List V):Nat->List V->Bool
 | _,[]=>true
 | i,v::l=>(!(m.testBit (1000+i)||m.testBit (2000+i))||(v.qA&&tK i T))&&qz m T (i+1) l
def mD(m:Nat):Nat->List V->List V
 | _,[]=>[]
 | i,v::l=>(cond (m.testBit (1000+i)) (fO 0 v) (cond (m.testBit (2000+i)) (fO 1 v) v))::mD m (i+1) l
def fF{R:Type}(ks:Option Nat)(T:List V)(K:List V->Option R):Option R :=
 match ks with
 | none=>K T
 | some m=>cond (qG m T 0 T) (cond (decide (m<2 ^ 1000)) (K (fm m 0 T)) (cond (qz m (fm m 0 T) 0 (fm m 0 T)) (K (mD m 0 (fm m 0 T))) none)) none
structure Env where
 step:Oper->M (List (Nat×V))
 N:Nat
 pins:Nat->Bool
 aT:Nat->Option Nat
def qP(E:Env)(o:Oper):Bool:=match o.dst with
 | some d => !E.pins d
 | none=>true
def lF(E:Env)(o:Oper)(T:List V):Option (List Nat×List (Nat×V)):=match o.dst with
 | none=>some ([],[])
 | some d=>cond ((T.getD d .dead).idle&&decide (d<E.N)) (some ([d],[(d,.bF [])])) none
def eP{R:Type}(E:Env)(ops:Array Oper)(draw:Bool)(K:List V->Option R)(T0:List V):List Oper->List V->List Rec->Option R
 | [],T,recs=>cond (!draw||(kW 0 ops.toList&&lI (gg ops.toList []) [] (recs.map λr=>(mask r.rd,mask r.wr))&&nt T0 recs&&decide (E.N<=bp))) (K T) none
 | o::l,T,recs=>cond (qP E o) (match o.guard with
  | none=>(E.step o).runK T [] λlog ups=>eP E ops draw K T0 l (ah T ups) (recs++[(log,ups)])
  | some (j,want)=>match (ops[j]?).bind (·.dst)with
   | none=>none
   | some g=>match T.getD g .dead with
    | .d l0 n0 .bool b=>cond b
      (cond want
       ((E.step o).runK (T.set g (.d l0 n0 .bool true)) [g] λlog ups=>eP E ops draw K T0 l (ah (T.set g (.d l0 n0 .bool true)) ups) (recs++[(log,ups)]))
       ((lF E o (T.set g (.d l0 n0 .bool true))).bind λu=>eP E ops draw K T0 l (ah (T.set g (.d l0 n0 .bool true)) u.2) (recs++[(g::u.1,u.2)])))
      (cond want
       ((lF E o (T.set g (.d l0 n0 .bool false))).bind λu=>eP E ops draw K T0 l (ah (T.set g (.d l0 n0 .bool false)) u.2) (recs++[(g::u.1,u.2)]))
       ((E.step o).runK (T.set g (.d l0 n0 .bool false)) [g] λlog ups=>eP E ops draw K T0 l (ah (T.set g (.d l0 n0 .bool false)) ups) (recs++[(log,ups)])))
    | .bF []=>(lF E o T).bind λu=>eP E ops draw K T0 l (ah T u.2) (recs++[(g::u.1,u.2)])
    | _=>none) none
def iW{α R:Type}(B:(α->Option R)->α->Option R):Nat->α->Option R
 | 0,_=>none
 | n+1,x=>B (iW B n) x
noncomputable def gP{α R:Type}(B:(α->Option R)->α->Option R)(x:α):Option R :=
 open Classical in if h:∃n r,iW B n x=some r then some (Classical.choose (Classical.choose_spec h))else none
def sq{α R:Type}(B:(α->Option R)->α->Option R):Prop :=
 ∀f x r,B f x=some r->(∀g,B g x=some r)\/∃y,f y=some r/\∀g,g y=some r->B g x=some r
theorem YL{B:(α->Option R)->α->Option R}(hB:sq B):∀n x r,iW B n x=some r->iW B (n+1) x=some r
 | 0,x,r,h=>by cases h
 | n+1,x,r,h=>by
  simp only[iW]at h;rcases hB _ _ _ h with h|⟨y,hy,h⟩
  ·exact h _
  ·exact h _ (YL hB n y r hy)
theorem YK[af]{B:(α->Option R)->α->Option R}(hB:sq B){n:Nat}(h:n<=m){x:α}(hr:iW B n x=some r):iW B m x=some r:=by
 induction h with
 | refl=>exact hr
 | step _ ih=>exact YL hB _ _ _ ih
theorem oP[af]{B:(α->Option R)->α->Option R}(hB:sq B){x:α}:gP B x=some r↔∃n,iW B n x=some r:=by
 unfold gP;constructor
 ·intro h;split at h
  ·rename_i hh;injection h with h;have:=Classical.choose_spec (Classical.choose_spec hh);rw[h]at this;exact⟨_,this⟩
  ·cases h
 ·rintro⟨n,hn⟩
  have hh:∃n r,iW B n x=some r:=⟨n,r,hn⟩;rw[dif_pos hh];have h1:=Classical.choose_spec (Classical.choose_spec hh);have h2:=YK hB (Nat.le_max_left _ n) h1;have h3:=YK hB (Nat.le_max_right (Classical.choose hh) n) hn;rw[h2]at h3;exact h3
theorem alb[af]{B:(α->Option R)->α->Option R}(hB:sq B)(x:α):gP B x=B (gP B) x:=by
 have key:∀r,gP B x=some r↔B (gP B) x=some r:=by
  intro r;constructor
  ·intro h;obtain⟨n,hn⟩:=(oP hB).1 h;cases n with
   | zero=>cases hn
   | succ n =>
    rcases hB _ _ _ hn with h|⟨y,hy,h⟩
    ·exact h _
    ·exact h _ ((oP hB).2 ⟨n,hy⟩)
  ·intro h;rcases hB _ _ _ h with h|⟨y,hy,h⟩
   ·exact (oP hB).2 ⟨1,h _⟩
   ·obtain⟨n,hn⟩:=(oP hB).1 hy;exact (oP hB).2 ⟨n+1,h _ hn⟩
 cases h1:gP B x with
 | some r=>exact ((key r).1 h1).symm
 | none =>
  cases h2:B (gP B) x with
  | none=>rfl
  | some r=>rw[(key r).2 h2]at h1;cases h1
def p7:Code->Option Nat
 | .region id _ _=>some id
 | .seq a b=>match p7 a with
  | some i=>some i
  | none=>p7 b
 | .block _ c=>p7 c
 | .loop c=>p7 c
 | .cond _ a _=>p7 a
 | _=>none
def gU(c:Code):Nat:=1000000+(p7 c).getD 0
def mE(c:Code):Nat:=2000000+(p7 c).getD 0
noncomputable def az(E:Env){R:Type}:Code->(Ex->List V->Option R)->List V->Option R
 | .skip,k,T=>k .bJ T
 | .label _,k,T=>k .bJ T
 | .region id ops draw,k,T=>fF (E.aT id) T λT=>eP E ops draw (k .bJ) T ops.toList T []
 | .seq a b,k,T=>az E a (λe T'=>match e with
  | .bJ=>fF (E.aT (mE b)) T' (az E b k)
  | .ext i=>k (.ext i) T'
  | .ret=>k .ret T') T
 | .cond (.tmp t) a b,k,T=>match T.getD t .dead with
  | .d l0 n0 .bool x=>cond x (az E a k (T.set t (.d l0 n0 .bool true))) (az E b k (T.set t (.d l0 n0 .bool false)))
  | _=>none
 | .block id c,k,T=>az E c (λe T'=>match e with
  | .bJ=>k .bJ T'
  | .ext i=>cond (i==id) (k .bJ T') (k (.ext i) T')
  | .ret=>k .ret T') T
 | .exit id,k,T=>k (.ext id) T
 | .loop c,k,T=>fF (E.aT (gU c)) T (gP λself T=>az E c (λe T'=>match e with
  | .bJ=>fF (E.aT (gU c)) T' self
  | .ext i=>k (.ext i) T'
  | .ret=>k .ret T') T)
 | .ret,k,T=>k .ret T
 | _,_,_=>none
theorem tC{ks:Option Nat}{T:List V}{K:List V->Option R}(h:fF ks T K=some r):∃T',K T'=some r/\∀K':List V->Option R,K' T'=some r->fF ks T K'=some r:=by
 unfold fF at h ⊢;cases ks with
 | none=>exact⟨T,h,λK' h=>h⟩
 | some m =>
  dsimp only at h ⊢;cases hc:qG m T 0 T with
  | true =>
   rw[hc]at h;simp only[cond_true]at h ⊢;cases hd:decide (m<2 ^ 1000)with
   | true=>rw[hd]at h;exact⟨_,h,λK' h=>h⟩
   | false =>
    rw[hd]at h;simp only[cond_false]at h ⊢;cases he:qz m (fm m 0 T) 0 (fm m 0 T)with
    | true=>rw[he]at h;exact⟨_,h,λK' h=>h⟩
    | false=>rw[he]at h;cases h
  | false=>rw[hc]at h;cases h
theorem LI{E:Env}{ops:Array Oper}{draw:Bool}{K:List V->Option R}{T0:List V}:{l:List Oper}->{T:List V}->{recs:List Rec}->eP E ops draw K T0 l T recs=some r ->
  ∃T',K T'=some r/\∀K':List V->Option R,K' T'=some r->eP E ops draw K' T0 l T recs=some r
 | [],T,recs,h=>by
  simp only[eP]at h ⊢;cases hc:(!draw||(kW 0 ops.toList&&lI (gg ops.toList []) [] (recs.map λr=>(mask r.rd,mask r.wr))&&nt T0 recs&&decide (E.N<=bp)))with
  | true=>rw[hc]at h;exact⟨T,h,λK' h=>h⟩
  | false=>rw[hc]at h;cases h
 | o::l,T,recs,h=>by
  have aP:∀{T1:List V} {l0:List Nat},((E.step o).runK T1 l0 λlog ups=>eP E ops draw K T0 l (ah T1 ups) (recs++[(log,ups)]))=some r ->
    ∃T',K T'=some r/\∀K':List V->Option R,K' T'=some r->((E.step o).runK T1 l0 λlog ups=>eP E ops draw K' T0 l (ah T1 ups) (recs++[(log,ups)]))=some r:=by
   intro T1 l0 h;obtain⟨ups,log,h1,h2⟩:=M.lD h;obtain⟨T',h3,h4⟩:=LI h2;exact⟨T',h3,λK' hK=>M.qT h1 (h4 K' hK)⟩
  have kq:∀{T1:List V} {g:Nat},((lF E o T1).bind λu=>eP E ops draw K T0 l (ah T1 u.2) (recs++[(g::u.1,u.2)]))=some r ->
    ∃T',K T'=some r/\∀K':List V->Option R,K' T'=some r->((lF E o T1).bind λu=>eP E ops draw K' T0 l (ah T1 u.2) (recs++[(g::u.1,u.2)]))=some r:=by
   intro T1 g h;obtain⟨u,h1,h2⟩:=Option.bind_eq_some_iff.1 h;obtain⟨T',h3,h4⟩:=LI h2;exact⟨T',h3,λK' hK=>by rw[h1];exact h4 K' hK⟩
  simp only[eP]at h ⊢;cases hp:qP E o with
  | false=>rw[hp]at h;cases h
  | true =>
   rw[hp]at h;simp only[cond_true]at h ⊢;split at h
   ·exact aP h
   ·split at h
    ·cases h
    ·split at h
     ·rename_i j want _ _ g _ _ l0 n0 b _;cases b with
      | true =>
       simp only[cond_true]at h ⊢;cases want with
       | true=>exact aP h
       | false=>exact kq h
      | false =>
       simp only[cond_false]at h ⊢;cases want with
       | true=>exact kq h
       | false=>exact aP h
     ·exact kq h
     ·cases h
theorem oM[af]{E:Env}:{c:Code}->{k:Ex->List V->Option R}->{T:List V}->{r:R}->az E c k T=some r ->
  ∃e T',k e T'=some r/\∀k':Ex->List V->Option R,k' e T'=some r->az E c k' T=some r
 | .skip,k,T,r,h=>⟨.bJ,T,h,λk' h=>h⟩
 | .label _,k,T,r,h=>⟨.bJ,T,h,λk' h=>h⟩
 | .exit id,k,T,r,h=>⟨.ext id,T,h,λk' h=>h⟩
 | .ret,k,T,r,h=>⟨.ret,T,h,λk' h=>h⟩
 | .region id ops draw,k,T,r,h=>by
  simp only[az]at h ⊢;obtain⟨T1,h1,h2⟩:=tC h;obtain⟨T',h3,h4⟩:=LI h1;exact⟨.bJ,T',h3,λk' hk=>h2 _ (h4 (k' .bJ) hk)⟩
 | .seq a b,k,T,r,h=>by
  simp only[az]at h ⊢;obtain⟨e,T1,h1,h2⟩:=oM h;cases e with
  | bJ =>
   obtain⟨T2,h5,h6⟩:=tC h1;obtain⟨e,T',h3,h4⟩:=oM h5;exact⟨e,T',h3,λk' hk=>h2 _ (h6 _ (h4 k' hk))⟩
  | ext i=>exact⟨.ext i,T1,h1,λk' hk=>h2 _ hk⟩
  | ret=>exact⟨.ret,T1,h1,λk' hk=>h2 _ hk⟩
 | .cond c a b,k,T,r,h=>by
  cases c with
  | tmp t =>
   simp only[az]at h ⊢;split at h
   ·rename_i x _;cases x with
    | true=>exact oM h
    | false=>exact oM h
   ·cases h
  | const _=>simp[az]at h
  | func _=>simp[az]at h
  | global _=>simp[az]at h
 | .block id c,k,T,r,h=>by
  simp only[az]at h ⊢;obtain⟨e,T1,h1,h2⟩:=oM h;cases e with
  | bJ=>exact⟨.bJ,T1,h1,λk' hk=>h2 _ hk⟩
  | ext i =>
   dsimp only at h1;cases hi:i==id with
   | true=>rw[hi]at h1;exact⟨.bJ,T1,h1,λk' hk=>h2 _ (by simp only[hi];exact hk)⟩
   | false=>rw[hi]at h1;exact⟨.ext i,T1,h1,λk' hk=>h2 _ (by simp only[hi];exact hk)⟩
  | ret=>exact⟨.ret,T1,h1,λk' hk=>h2 _ hk⟩
 | .loop c,k,T,r,h=>by
  have ab4:∀(k:Ex->List V->Option R),sq (λ(self:List V->Option R) T=>az E c (λe T'=>match e with
    | .bJ=>fF (E.aT (gU c)) T' self
    | .ext i=>k (.ext i) T'
    | .ret=>k .ret T') T):=by
   intro k f x r h;obtain⟨e,T1,h1,h2⟩:=oM h;cases e with
   | bJ =>
    obtain⟨T2,h3,h4⟩:=tC h1;exact .inr ⟨T2,h3,λg hg=>h2 _ (h4 g hg)⟩
   | ext i=>exact .inl λg=>h2 _ h1
   | ret=>exact .inl λg=>h2 _ h1
  simp only[az]at h ⊢;obtain⟨T1,h1,h2⟩:=tC h;obtain⟨n,hn⟩:=(oP (ab4 k)).1 h1;have key:∀n T1,iW (λ(self:List V->Option R) T=>az E c (λe T'=>match e with
    | .bJ=>fF (E.aT (gU c)) T' self
    | .ext i=>k (.ext i) T'
    | .ret=>k .ret T') T) n T1=some r->∃e T',k e T'=some r/\∀k':Ex->List V->Option R,k' e T'=some r->iW (λ(self:List V->Option R) T=>az E c (λe T'=>match e with
    | .bJ=>fF (E.aT (gU c)) T' self
    | .ext i=>k' (.ext i) T'
    | .ret=>k' .ret T') T) n T1=some r:=by
   intro n;induction n with
   | zero=>intro T1 h;cases h
   | succ n ih =>
    intro T1 h;simp only[iW]at h ⊢;obtain⟨e,T2,h3,h4⟩:=oM h;cases e with
    | bJ =>
     obtain⟨T3,h5,h6⟩:=tC h3;obtain⟨e,T',h7,h8⟩:=ih T3 h5;exact⟨e,T',h7,λk' hk=>h4 _ (h6 _ (h8 k' hk))⟩
    | ext i=>exact⟨.ext i,T2,h3,λk' hk=>h4 _ hk⟩
    | ret=>exact⟨.ret,T2,h3,λk' hk=>h4 _ hk⟩
  obtain⟨e,T',h3,h4⟩:=key n T1 hn;exact⟨e,T',h3,λk' hk=>h2 _ ((oP (ab4 k')).2 ⟨n,h4 k' hk⟩)⟩
 | .rangeFunc ..,k,T,r,h=>by simp[az]at h
 | .scope _,k,T,r,h=>by simp[az]at h
 | .goto _,k,T,r,h=>by simp[az]at h
 | .refuse _,k,T,r,h=>by simp[az]at h
theorem ab5[af]{E:Env}{c:Code}(k:Ex->List V->Option R):sq (λ(self:List V->Option R) T=>az E c (λe T'=>match e with
  | .bJ=>fF (E.aT (gU c)) T' self
  | .ext i=>k (.ext i) T'
  | .ret=>k .ret T') T):=by
 intro f x r h;obtain⟨e,T1,h1,h2⟩:=oM h;cases e with
 | bJ =>
  obtain⟨T2,h3,h4⟩:=tC h1;exact .inr ⟨T2,h3,λg hg=>h2 _ (h4 g hg)⟩
 | ext i=>exact .inl λg=>h2 _ h1
 | ret=>exact .inl λg=>h2 _ h1
def Ex.ex:Ex->Exit
 | .bJ=>.normal
 | .ext i=>.exit i
 | .ret=>.ret
section
variable{P:Program}{w0:World}{L0:Nat->aj}{vs:List Nat}{E:Env}{A0:Array Value}{T T':List V}{a:Act}{w:World}
def J[af](w0:World)(L0:Nat->aj)(vs:List Nat)(E:Env)(A0:Array Value)(T:List V)(a:Act)(w:World):Prop :=
 (∃L,Inv w0 L0 E.N vs T a w L)/\∀p,E.pins p=true->a.tmps.getD p undef=A0.getD p undef
def sj[af](P:Program)(w0:World)(L0:Nat->aj)(vs:List Nat)(E:Env):Prop :=
 P.follows .mixedOrders=true/\∀o T ups log a w L,Inv w0 L0 E.N vs T a w L->(E.step o).ai T ups log->Step P o w0 L0 E.N vs (ah T ups) a w
theorem kJ[af]{dst:Option Tmp}{v:Value}{s:Nat}(h:dst≠some s):(a.put dst v).tmps.getD s undef=a.tmps.getD s undef:=by
 cases dst with
 | none=>rfl
 | some d =>
  show (a.tmps.setIfInBounds d v).getD s undef=_;rw[ed,if_neg (λe=>h (by rw[e.1]))]
theorem axg[af]{K:Act->World->Prop}{Q:Exit->Act->World->Prop}(h:o.wp P a w K Q):
  o.wp P a w (λa' w'=>K a' w'/\∀s,o.dst≠some s->a'.tmps.getD s undef=a.tmps.getD s undef) Q:=by
 unfold Oper.wp at *
 generalize (execOp a.eval o).run P w=r at *
 cases r with
 | ok n w' =>
  cases n<;>simp only[Oper.upon]at h ⊢
  case value v=>exact⟨h,λs hs=>kJ hs⟩
  case skip=>exact⟨h,λs hs=>kJ hs⟩
  case defer d=>exact⟨h,λs hs=>kJ (a:={ a with defers:=d::a.defers }) hs⟩
  case enter f args =>
   refine Calls.mono h (λe w'' he=>?_);cases e with
   | returned v=>exact⟨he,λs hs=>kJ hs⟩
   | panicked c=>exact he
   | outgrown=>exact he
  case row=>exact Rows.mono h (λv w'' he=>⟨he,λs hs=>kJ hs⟩)
  all_goals exact h
 | halt x w'=>cases x<;>simp only[Oper.upon]at h ⊢<;>exact h
def r4(E:Env)(o:Oper)(T:List V)(r:Rec):Prop:=r.2=o.dst.toList.map (λd=>(d,V.bF []))/\∀d,o.dst=some d->(T.getD d .dead).idle=true/\d<E.N/\d∈r.1
def rr(E:Env)(ops:Array Oper)(o:Oper)(T:List V)(r:Rec):Prop :=
 qP E o=true /\
 ((o.guard=none/\∃log,(E.step o).ai T r.2 log/\∀s∈log,s∈r.1) \/
  (∃j want g l0 n0 b,o.guard=some (j,want)/\(ops[j]?).bind (·.dst)=some g/\T.getD g .dead = .d l0 n0 .bool b/\g∈r.1 /\
  ((b=want/\∃log,(E.step o).ai T r.2 log/\∀s∈log,s∈r.1)\/(b≠want/\r4 E o T r))) \/
  ∃j want g,o.guard=some (j,want)/\(ops[j]?).bind (·.dst)=some g/\T.getD g .dead = .bF []/\g∈r.1/\r4 E o T r)
theorem rr.agree[af]{ops:Array Oper}{r:Rec}(hl:T.length<=bp)(dT:T'.length=T.length)(h:rr E ops o T r)(hT:∀s∈r.1,MO T T' s):rr E ops o T' r:=by
 have jr:∀s∈r.1,T'.getD s .dead=T.getD s .dead:=λs hs=>by
  by_cases hk:s<bp
  ·exact (hT s hs).1 hk
  ·rw[eJ (by omega),eJ (by omega)]
 refine⟨h.1,?_⟩;have kq:r4 E o T r->r4 E o T' r:=λ⟨h6,h7⟩=>⟨h6,λd hd=>by
  obtain⟨h8,h9,mb⟩:=h7 d hd;exact⟨by rw[jr d mb];exact h8,h9,mb⟩⟩
 rcases h.2 with⟨h1,log,h2,h3⟩|⟨j,want,g,l0,n0,b,h1,h2,h3,h4,h5⟩|⟨j,want,g,h1,h2,h3,h4,h5⟩
 ·exact .inl ⟨h1,log,M.pq hl dT h2 (λs hs=>hT s (h3 s hs)),h3⟩
 ·refine .inr (.inl ⟨j,want,g,l0,n0,b,h1,h2,(jr g h4).trans h3,h4,?_⟩);rcases h5 with⟨h5,log,h6,h7⟩|⟨h5,h6⟩
  ·exact .inl ⟨h5,log,M.pq hl dT h6 (λs hs=>hT s (h7 s hs)),h7⟩
  ·exact .inr ⟨h5,kq h6⟩
 ·exact .inr (.inr ⟨j,want,g,h1,h2,(jr g h4).trans h3,h4,kq h5⟩)
theorem Inv.axk[af]{L:Nat->aj}(hI:Inv w0 L0 E.N vs T a w L){ops:Array Oper}{j:Nat}{l0:Option Nat}{n0:Nat}{b:Bool}(h2:(ops[j]?).bind (·.dst)=some g)(h3:T.getD g .dead = .d l0 n0 .bool b):
  yielded ops a.tmps j=some b:=by
 have hs:=hI.aY g;rw[h3]at hs;have hb:=hs.bool;unfold yielded;rw[h2];have ax:g<a.tmps.size:=by
  rcases Nat.lt_or_ge g a.tmps.size with h|h
  ·exact h
  ·exfalso;rw[hI.size]at h;rw[eJ (by rw[hI.len];exact h)]at h3;cases h3
 simp only[Option.bind_some,Array.getElem?_eq_getElem ax];simp only[Array.getD_eq_getD_getElem?,Array.getElem?_eq_getElem ax,Option.getD_some]at hb;rw[hb]
theorem Inv.apF[af]{L:Nat->aj}(hI:Inv w0 L0 E.N vs T a w L){ops:Array Oper}{j:Nat}(h2:(ops[j]?).bind (·.dst)=some g)(h3:T.getD g .dead = .bF []):yielded ops a.tmps j=none:=by
 have hs:=hI.aY g;rw[h3]at hs;obtain⟨us,hu,_⟩:=hs;unfold yielded;rw[h2];simp only[Option.bind_some];rw[Array.getD_eq_getD_getElem?]at hu;cases hg:a.tmps[g]? with
 | none=>rfl
 | some c =>
  rw[hg]at hu;simp only[Option.getD_some]at hu;rw[hu]
theorem Inv.skip[af]{L:Nat->aj}(hI:Inv w0 L0 E.N vs T a w L){dst:Option Nat}(h:∀d,dst=some d->(T.getD d .dead).idle=true/\d<E.N):
  Inv w0 L0 E.N vs (ah T (dst.toList.map λd=>(d,V.bF []))) (a.put dst undef) w L:=by
 cases dst with
 | none=>exact hI
 | some d =>
  obtain⟨h1,h2⟩:=h d rfl;exact Inv.set hI h2 h1 (ew.refl hI d) (.bF []) undef (λk q hk h=>by rw[hI.free k hk]at h;cases h) (λr hr=>by simp[V.on,V.root]at hr) ⟨#[],rfl,rfl⟩
theorem aa5(h:qP E o=true){p:Nat}(hp:E.pins p=true):o.dst≠some p:=by
 intro e;unfold qP at h;rw[e]at h;simp[hp]at h
theorem WC[af]{ops:Array Oper}{Q:Exit->Act->World->Prop}(ba:sj P w0 L0 vs E){r:Rec}(h:rr E ops o T r):MN P ops (J w0 L0 vs E A0) Q o T (ah T r.2):=by
 intro a w hJ K hK;obtain⟨⟨L,hI⟩,tk⟩:=hJ;have xb:∀log,(E.step o).ai T r.2 log->o.wp P a w K Q:=by
  intro log hr;have h1:=ba.2 o T r.2 log a w L hI hr;have h2:=h1 (λa' w'=>∃L',Inv w0 L0 E.N vs (ah T r.2) a' w' L') Q (λa' w' L' h=>⟨L',h⟩);exact Oper.wp_mono (λa' w' hh=>hK a' w' ⟨hh.1,λp hp=>(hh.2 p (aa5 h.1 hp)).trans (tk p hp)⟩) (axg h2)
 have kq:r4 E o T r->K (a.put o.dst undef) w:=λ⟨h6,h7⟩=>by
  rw[h6]at hK;exact hK _ _ ⟨⟨L,hI.skip (λd hd=>⟨(h7 d hd).1,(h7 d hd).2.1⟩)⟩,λp hp=>(kJ (aa5 h.1 hp)).trans (tk p hp)⟩
 rcases h.2 with⟨h1,log,h2,h3⟩|⟨j,want,g,l0,n0,b,h1,h2,h3,h4,h5⟩|⟨j,want,g,h1,h2,h3,h4,h5⟩
 ·rw[if_pos (by simp[Region.wanted,h1])];exact xb log h2
 ·have hy:=hI.axk h2 h3;have hw:Region.wanted o (yielded ops a.tmps)=(b==want):=by
   simp[Region.wanted,h1,hy]
  rw[hw];rcases h5 with⟨rfl,log,h6,h7⟩|⟨h5,h6⟩
  ·rw[if_pos (by simp)];exact xb log h6
  ·rw[if_neg (by simpa using h5)];exact kq h6
 ·have hy:=hI.apF h2 h3;rw[if_neg (by simp[Region.wanted,h1,hy])];exact kq h5
def rq(E:Env)(ops:Array Oper):List Oper->List V->List Rec->List V->Prop
 | [],T,[],T'=>T=T'
 | o::l,T,r::rs,T'=>rr E ops o T r/\rq E ops l (ah T r.2) rs T'
 | _,_,_,_=>False
theorem abC[af]{T:List V}{v:V}(h:T.getD g .dead=v)(hv:v ≠ .dead):T.set g v=T:=by
 refine Dv (by simp) (λs=>?_);rw[aH];split
 ·rename_i hs;rw[hs.1,h]
 ·rfl
theorem abD{u:List Nat×List (Nat×V)}(h1:lF E o T=some u):r4 E o T (g::u.1,u.2):=by
 unfold lF at h1;split at h1
 ·rename_i hd;injection h1 with h1;subst h1;exact⟨by simp[hd],λd oY=>by rw[hd]at oY;cases oY⟩
 ·rename_i d hd;cases hc:((T.getD d .dead).idle&&decide (d<E.N))with
  | false=>rw[hc]at h1;cases h1
  | true =>
   rw[hc]at h1;simp only[cond_true,Option.some.injEq]at h1;subst h1;simp only[Bool.and_eq_true,decide_eq_true_eq]at hc;refine⟨by simp[hd],λd' oY=>?_⟩;rw[hd]at oY;injection oY with oY;subst oY;exact⟨hc.1,hc.2,by simp⟩
theorem xD[af]{ops:Array Oper}{draw:Bool}{K:List V->Option R}{T0:List V}:{l:List Oper}->{T:List V}->{recs:List Rec}->eP E ops draw K T0 l T recs=some r ->
  ∃rs T',rq E ops l T rs T'/\K T'=some r/\rs.length=l.length/\(draw=true->kW 0 ops.toList=true/\lI (gg ops.toList []) [] ((recs++rs).map λr=>(mask r.rd,mask r.wr))=true/\nt T0 (recs++rs)=true/\E.N<=bp)
 | [],T,recs,h=>by
  simp only[eP]at h;cases hc:(!draw||(kW 0 ops.toList&&lI (gg ops.toList []) [] (recs.map λr=>(mask r.rd,mask r.wr))&&nt T0 recs&&decide (E.N<=bp)))with
  | false=>rw[hc]at h;cases h
  | true =>
   rw[hc]at h;refine⟨[],T,rfl,h,rfl,λhd=>?_⟩;subst hd;simp only[Bool.not_true,Bool.false_or,Bool.and_eq_true,decide_eq_true_eq]at hc;rw[List.append_nil];exact⟨hc.1.1.1,hc.1.1.2,hc.1.2,hc.2⟩
 | o::l,T,recs,h=>by
  simp only[eP]at h;cases hp:qP E o with
  | false=>rw[hp]at h;cases h
  | true =>
   rw[hp]at h;simp only[cond_true]at h;split at h
   ·rename_i hg;obtain⟨ups,log,h1,h2⟩:=M.lD h;obtain⟨rs,T',h3,h4,h5,h6⟩:=xD h2;exact⟨(log.reverse++[],ups)::rs,T',⟨⟨hp,.inl ⟨hg,log,h1,by simp⟩⟩,h3⟩,h4,by simp[h5],by simpa using h6⟩
   ·rename_i j want hg;split at h
    ·cases h
    ·rename_i g aB;split at h
     ·rename_i l0 n0 b hT;have key:∀b',T.getD g .dead = .d l0 n0 .bool b'->T.set g (.d l0 n0 .bool b')=T:=λb' hT=>abC hT (by simp);have aP:∀b',T.getD g .dead = .d l0 n0 .bool b'->b'=want->((E.step o).runK (T.set g (.d l0 n0 .bool b')) [g] λlog ups=>eP E ops draw K T0 l (ah (T.set g (.d l0 n0 .bool b')) ups) (recs++[(log,ups)]))=some r ->
        ∃rs T',rq E ops (o::l) T rs T'/\K T'=some r/\rs.length=(o::l).length/\(draw=true->kW 0 ops.toList=true/\lI (gg ops.toList []) [] ((recs++rs).map λr=>(mask r.rd,mask r.wr))=true/\nt T0 (recs++rs)=true/\E.N<=bp):=by
       intro b' hT J3 h;rw[key b' hT]at h;obtain⟨ups,log,h1,h2⟩:=M.lD h;obtain⟨rs,T',h3,h4,h5,h6⟩:=xD h2;refine⟨(log.reverse++[g],ups)::rs,T',⟨⟨hp,.inr (.inl ⟨j,want,g,l0,n0,b',hg,aB,hT,by simp,.inl ⟨J3,log,h1,λs hs=>by simp[hs]⟩⟩)⟩,h3⟩,h4,by simp[h5],by simpa using h6⟩
      have kq:∀b',T.getD g .dead = .d l0 n0 .bool b'->b'≠want->((lF E o (T.set g (.d l0 n0 .bool b'))).bind λu=>eP E ops draw K T0 l (ah (T.set g (.d l0 n0 .bool b')) u.2) (recs++[(g::u.1,u.2)]))=some r ->
        ∃rs T',rq E ops (o::l) T rs T'/\K T'=some r/\rs.length=(o::l).length/\(draw=true->kW 0 ops.toList=true/\lI (gg ops.toList []) [] ((recs++rs).map λr=>(mask r.rd,mask r.wr))=true/\nt T0 (recs++rs)=true/\E.N<=bp):=by
       intro b' hT J3 h;rw[key b' hT]at h;obtain⟨u,h1,h2⟩:=Option.bind_eq_some_iff.1 h;obtain⟨rs,T',h3,h4,h5,h6⟩:=xD h2;exact⟨(g::u.1,u.2)::rs,T',⟨⟨hp,.inr (.inl ⟨j,want,g,l0,n0,b',hg,aB,hT,by simp,.inr ⟨J3,abD h1⟩⟩)⟩,h3⟩,h4,by simp[h5],by simpa using h6⟩
      cases b with
      | true =>
       simp only[cond_true]at h;cases want with
       | true=>exact aP true hT rfl h
       | false=>exact kq true hT (by simp) h
      | false =>
       simp only[cond_false]at h;cases want with
       | true=>exact kq false hT (by simp) h
       | false=>exact aP false hT rfl h
     ·rename_i hT;obtain⟨u,h1,h2⟩:=Option.bind_eq_some_iff.1 h;obtain⟨rs,T',h3,h4,h5,h6⟩:=xD h2;exact⟨(g::u.1,u.2)::rs,T',⟨⟨hp,.inr (.inr ⟨j,want,g,hg,aB,hT,by simp,abD h1⟩)⟩,h3⟩,h4,by simp[h5],by simpa using h6⟩
     ·cases h
theorem Wj[af]{ops:Array Oper}:{l:List Oper}->{T:List V}->{rs:List Rec}->{T':List V}->{k:Nat}->rq E ops l T rs T' ->
  T'=du (λ_=>true) k rs T/\∀(i:Nat) (o:Oper) (r:Rec),l[i]?=some o->rs[i]?=some r->rr E ops o (du (λj=>decide (j<k+i)) k rs T) r
 | [],T,[],T',k,h=>⟨h.symm,λi o r hi _=>by simp at hi⟩
 | o::l,T,r::rs,T',k,⟨h1,h2⟩=>by
  obtain⟨h3,h4⟩:=Wj (k:=k+1) h2;refine⟨by simpa[du]using h3,λi o' r' hi hr=>?_⟩;cases i with
  | zero =>
   simp only[List.getElem?_cons_zero,Option.some.injEq]at hi hr;subst hi hr;rw[xQ (λj hj=>by simp;omega)];exact h1
  | succ i =>
   have:=h4 i o' r' (by simpa using hi) (by simpa using hr);simp only[du];rw[if_pos (by simp)]
   rwa [show k+(i+1)=k+1+i by omega]
 | [],_,_::_,_,_,h=>h.elim
 | _::_,_,[],_,_,h=>h.elim
theorem J.len[af](h:J w0 L0 vs E A0 T a w):T.length=E.N:=by obtain⟨⟨L,hI⟩,_⟩:=h;exact hI.len
theorem Wk[af]{ops:Array Oper}{Q:Exit->Act->World->Prop}(ba:sj P w0 L0 vs E):{l:List Oper}->{T:List V}->{rs:List Rec}->{i:Nat}->(∀k o,l[k]?=some o->ops[i+k]?=some o)->rq E ops l T rs T' ->
  (∀a' w',J w0 L0 vs E A0 T' a' w'->Q .normal a' w')->∀a w,J w0 L0 vs E A0 T a w->wpOps P ops Q (List.range' i l.length) a w
 | [],T,[],i,_,h,hQ,a,w,hJ=>by
  obtain rfl:T=T':=h;simp only[List.length_nil,List.range'_zero,wpOps];exact hQ a w hJ
 | o::l,T,r::rs,i,ho,⟨h1,h2⟩,hQ,a,w,hJ=>by
  simp only[List.length_cons,List.range'_succ];refine ack (by simpa using ho 0 o rfl) ?_;refine WC ba h1 a w hJ _ (λa' w' eK=>Wk ba (λk o hk=>?_) h2 hQ a' w' eK);have:=ho (k+1) o (by simpa using hk)
  rwa [show i+(k+1)=i+1+k by omega]at this
 | [],_,_::_,_,_,h,_,_,_,_=>h.elim
 | _::_,_,[],_,_,h,_,_,_,_=>h.elim
theorem J.drawn[af](h:J w0 L0 vs E A0 T a w)(n:Nat)(hn:w.drawn<=n):J w0 L0 vs E A0 T a { w with drawn:=n }:=by
 obtain⟨⟨L,hI⟩,hp⟩:=h;refine⟨⟨L,hI.size,hI.len,hI.dR,⟨hI.fr.os,hI.fr.tape,hI.fr.output,hI.fr.size,Nat.le_trans hI.fr.drawn hn,hI.fr.aT,hI.fr.ij⟩,hI.free,hI.inj,hI.owner,hI.roots,λs=>?_⟩,hp⟩;exact aD.aT (w:=w) (w':={ w with drawn:=n }) (L':=L) (T':=T) (tm':=a.tmps) (λk _=>⟨rfl,rfl⟩) (λ_ _ _=>⟨rfl,rfl⟩) (hI.aY s)
theorem aqp[af]{ops:Array Oper}{draw:Bool}{id:Nat}{K:List V->Option R}(ba:sj P w0 L0 vs E)(h:eP E ops draw K T ops.toList T []=some r)(hJ:J w0 L0 vs E A0 T a w):
  (Code.region id ops draw).wp P (λe a' w'=>e = .normal/\∃T',K T'=some r/\J w0 L0 vs E A0 T' a' w') a w:=by
 obtain⟨rs,T',XI,hK,hlen,alZ⟩:=xD h;have bq:rs.length=ops.size:=by simpa using hlen
 cases draw with
 | false =>
  refine wp_region ?_;have:=Wk (A0:=A0) (Q:=λe a' w'=>e = .normal/\∃T',K T'=some r/\J w0 L0 vs E A0 T' a' w') ba (i:=0) (λk o hk=>by simpa using hk) XI (λa' w' eK=>⟨rfl,T',hK,eK⟩) a w hJ;rw[List.range_eq_range'];simpa using this
 | true =>
  obtain⟨hb,ht,hq,hN⟩:=alZ rfl;rw[List.nil_append]at hq;obtain⟨h1,h2⟩:=Wj (k:=0) XI;refine wp_region_draw λt=>?_;rw[ba.1];refine abg (J:=J w0 L0 vs E A0) (N:=E.N) (recs:=rs) (T0:=T) hJ.len hN bq (akL hq) ?_ (arE bq (by simpa using ht)) ?_ _ [] aqC (λi hi=>by simp at hi) (λi hi=>.inr (aqB (akO hb) i hi)) a _ ?_
  ·intro i o rc ho hr T1 jr J1 CV;have:=h2 i o rc (by simpa using ho) hr;simp only[Nat.zero_add]at this;exact WC ba (this.agree (by rw[jd,hJ.len];exact hN) (by rw[jd,hJ.len,jr]) (λs hs=>⟨λhk=>J1 s (List.mem_append_left _ hs) hk,λhk _=>CV s hs hk⟩))
  ·intro a' w' eK;rw[<-h1]at eK;exact⟨rfl,T',hK,eK⟩
  ·rw[xQ (λj _=>by simp)];exact hJ.drawn _ (Nat.le_succ _)
theorem ZV:{i:Nat}->{l:List V}->(s:Nat)->(fm m i l).getD s .dead=if (m.testBit (i+s))=true then l.getD s .dead else .dead
 | i,[],s=>by simp[fm]
 | i,v::l,0=>by
  simp only[fm,List.getD_cons_zero,Nat.add_zero];cases m.testBit i<;>rfl
 | i,v::l,s+1=>by
  simp only[fm,List.getD_cons_succ];rw[ZV,show i+1+s=i+(s+1)by omega]
theorem ZW:{i:Nat}->{l:List V}->(fm m i l).length=l.length
 | _,[]=>rfl
 | i,v::l=>by simp[fm,ZW]
theorem ZX{T:List V}:{i:Nat}->{l:List V}->qG m T i l=true->∀s r,m.testBit (i+s)=true->(l.getD s .dead).root=some r->m.testBit r=true\/(T.getD r .dead).aM=false
 | _,[],_,s,r,_,hr=>by simp[V.root]at hr
 | i,v::l,h,s,r,hs,hr=>by
  simp only[qG,Bool.and_eq_true,Bool.or_eq_true,Bool.not_eq_true']at h;cases s with
  | zero =>
   rw[List.getD_cons_zero]at hr;rw[hr]at h;have:=h.1.resolve_left (by rw[show i=i+0 from rfl,hs];simp);simpa using this
  | succ s =>
   refine ZX h.2 s r (by rwa [show i+1+s=i+(s+1)by omega]) (by simpa using hr)
def nB(X nb:Nat->Bool)(lev:Nat->Nat):Nat->List Nat->aj:=λz q=>cond (X z&&(decide (lev z+1<=q.length)||(q.isEmpty&&nb z))) .au (.own z q)
theorem CL{X nb:Nat->Bool}{lev:Nat->Nat}{z z':Nat}{q':List Nat}(h:nB X nb lev z q = .own z' q'):z'=z/\q'=q/\(X z=true->q.length<=lev z/\(q=[]->nb z=false)):=by
 unfold nB at h;cases hz:X z&&(decide (lev z+1<=q.length)||(q.isEmpty&&nb z))with
 | true=>rw[hz]at h;cases h
 | false =>
  rw[hz]at h;simp only[cond_false]at h;injection h with h1 h2;refine⟨h1.symm,h2.symm,λe=>?_⟩;rw[e,Bool.true_and,Bool.or_eq_false_iff,decide_eq_false_iff_not]at hz;refine⟨by omega,λe2=>?_⟩;have:=hz.2;rw[e2]at this;simpa using this
theorem W6[af]{X nb:Nat->Bool}{lev:Nat->Nat}:fL (nB X nb lev) (λz=>X z=true):=by
 refine⟨λz q hX=>?_,λz q z' q' hX h=>?_,λz q z2 q2 z' q' h1 h2=>?_,λz q=>?_⟩
 ·unfold nB;cases hz:X z with
  | true=>exact absurd hz hX
  | false=>rfl
 ·obtain⟨rfl,_⟩:=CL h;exact hX
 ·obtain⟨rfl,rfl,_⟩:=CL h1;obtain⟨h3,h4,_⟩:=CL h2;exact⟨h3,h4⟩
 ·unfold nB;cases X z&&(decide (lev z+1<=q.length)||(q.isEmpty&&nb z))<;>simp
theorem alj{v:V}:(fO k v).root=v.root:=by cases v<;>rfl
theorem Inv.freeze[af]{N:Nat}{L:Nat->aj}(hI:Inv w0 L0 N vs T a w L){X:Nat->Bool}{lev:Nat->Nat}(ag:∀z r,X r=true->(T.getD z .dead).on r=false)(hv:∀s,X s=true->(T.getD s .dead).qA=true)
  (X7:∀s,X s=true->lev s<=(T.getD s .dead).lvl)
  (hlen:T'.length=N) (hT:∀z,T'.getD z .dead=cond (X z) (fO (lev z) (T.getD z .dead)) (T.getD z .dead)) :
  ∃L',Inv w0 L0 N vs T' a w L':=by
 let nb:Nat->Bool:=λz=>match T.getD z .dead with | .box .. =>false|_=>true
 have jr:∀z,X z=true->T'.getD z .dead=fO (lev z) (T.getD z .dead):=λz h=>by rw[hT,h];rfl
 have qa:∀z,X z=false->T'.getD z .dead=T.getD z .dead:=λz h=>by rw[hT,h];rfl
 have w5:∀z r,(T.getD z .dead).root=some r->X r=false:=λz r h=>by
  cases hr:X r with
  | false=>rfl
  | true =>
   have:=ag z r hr;unfold V.on at this;rw[h]at this;simp at this
 have Xw:∀(l:Option Nat),(∀r,l=some r->X r=false)->∀k,SL L l k->SL (aU (nB X nb lev) w L (λ_=>.free)) l k/\w.heap[k]?=w.heap[k]?:=by
  rintro l hl k (hk|⟨r,q,hr,hk⟩)
  ·exact⟨.inl (eD hI hk),rfl⟩
  ·exact⟨.inr ⟨r,q,hr,xy hI W6 hk (λe=>by rw[hl r hr]at e;cases e)⟩,rfl⟩
 have gm:∀s (l:Option Nat),X s=true->∀k d rest,L k = .own s ([]++(0+d)::rest)->w.heap[k]?=w.heap[k]?/\(rest.length<lev s->aU (nB X nb lev) w L (λ_=>.free) k = .own s ([]++(0+d)::rest))/\(lev s<=rest.length->SL (aU (nB X nb lev) w L (λ_=>.free)) l k):=by
  intro s l hs k d rest hk;have hc:([]++(0+d)::rest:List Nat).length=rest.length+1:=by simp
  unfold SL;rw[c8 hI (by rw[hk];simp),hk];refine⟨rfl,λh=>?_,λh=>.inl ?_⟩
  ·show cond _ _ _=_;rw[hs,hc,decide_eq_false (by omega),show (([]++(0+d)::rest:List Nat).isEmpty)=false from rfl];rfl
  ·show cond _ _ _=_;rw[hs,hc,decide_eq_true (by omega)];rfl
 refine⟨aU (nB X nb lev) w L (λ_=>.free),Inv.gY hI W6 (Wd.refl hI _) (λ_ _ _ _ _ h=>by cases h) hI.size hlen hI.dR ?_ ?_ ?_ ?_ ?_⟩
 ·intro k s' q bN h;rw[jr _ bN];unfold aU at h;split at h
  ·obtain⟨s0,q0,e0,f0⟩:=eZ h;obtain⟨rfl,rfl,h3⟩:=CL f0;have hb:=h3 bN;have hi:=hv _ bN;have ho:=hI.owner k _ _ e0;have mi:=X7 _ bN;have bd:=hI.aY s';have hq:q=[]->nb s'=false:=hb.2;have hb:=hb.1;have Yd:nb s'=match T.getD s' .dead with | .box .. =>false|_=>true:=rfl
   generalize T.getD s' .dead=u at hi ho mi Yd;have hq:(∃l n t x,u = .d l n t x)->q≠[]:=by
    rintro⟨l,n,t,x,rfl⟩ e
    rw[Yd]at hq;exact absurd (hq e) (by simp)
   cases u with
   | d l n t x =>
    have hq:=hq ⟨l,n,t,x,rfl⟩;have:=List.length_pos_iff.2 hq;simp only[V.aM,fO,Bool.and_eq_true,bne_iff_ne,ne_eq]at ho ⊢;exact⟨by omega,ho.2⟩
   | box l n t x=>rfl
   | _=>simp[V.qA]at hi
  ·cases h
 ·intro z r hz ho hr;rw[ag z r hr]at ho;cases ho
 ·intro z hz;rw[qa z (by simpa using hz)];exact⟨rfl,rfl⟩
 ·intro z r hz ho;rw[jr z hz]at ho;refine hI.roots z r ?_;unfold V.on at ho ⊢
  rwa [alj]at ho
 ·intro z hz;rw[jr z hz];have bd:=hI.aY z;have cq:=w5 z;have hi:=hv z hz;have mi:=X7 z hz;have Ye:nb z=match T.getD z .dead with | .box .. =>false|_=>true:=rfl
  generalize T.getD z .dead=u at bd cq hi mi Ye;have ke:∀l:Option Nat,(∀r,l=some r->X r=false)->(∀r,l=some r->(T.getD r .dead).deep=true)->∀r,l=some r->(T'.getD r .dead).deep=true:=by
   intro l hl h r hr;rw[qa r (hl r hr)];exact h r hr
  cases u with
  | d l n t x =>
   obtain⟨h1,cs,h2,h3⟩:=bd;have hm:min (lev z) n=lev z:=Nat.min_eq_left mi;refine⟨ke l cq h1,cs,h2,?_⟩;rw[hm];exact Own.fp mi (Xw l cq) (λk d rest _ hk=>gm z l hz k d rest hk) h3
  | box l n t x =>
   obtain⟨h1,g,cur,e,h2,h3,h4,h5,h6⟩:=bd;have hm:min (lev z) n=lev z:=Nat.min_eq_left mi;refine⟨ke l cq h1,g,cur,e,h2,?_,h4,h5,?_⟩
   ·rw[c8 hI (by rw[h3];simp),h3];show cond _ _ _=_;rw[hz,decide_eq_false (by simp),Ye];rfl
   ·rw[hm];exact Own.fp mi (Xw l cq) (λk d rest _ hk=>gm z l hz k d rest hk) h6
  | _=>simp[V.qA]at hi
theorem aaM{r:Nat}:{l:List V}->tK r l=true->∀z,(l.getD z .dead).on r=false
 | [],_,z=>by simp[V.on,V.root]
 | v::l,h,0=>by simp only[tK,Bool.and_eq_true,Bool.not_eq_true']at h;simpa using h.1
 | v::l,h,z+1=>by simp only[tK,Bool.and_eq_true]at h;simpa using aaM h.2 z
theorem KN{T:List V}:{i:Nat}->{l:List V}->qz m T i l=true->∀s,s<l.length->(m.testBit (1000+(i+s))||m.testBit (2000+(i+s)))=true->(l.getD s .dead).qA=true/\tK (i+s) T=true
 | _,[],_,s,hs,_=>by simp at hs
 | i,v::l,h,s,hs,hb=>by
  simp only[qz,Bool.and_eq_true,Bool.or_eq_true,Bool.not_eq_true']at h;cases s with
  | zero =>
   have:=h.1.resolve_left (by rw[show (m.testBit (1000+i)||m.testBit (2000+i))=true from hb];simp);simpa using this
  | succ s =>
   have:=KN h.2 s (by simpa using hs) (by rwa [show i+1+s=i+(s+1)by omega]);rw[show i+1+s=i+(s+1)by omega]at this;simpa using this
theorem YE:{i:Nat}->{l:List V}->(s:Nat)->(mD m i l).getD s .dead=cond (m.testBit (1000+(i+s))) (fO 0 (l.getD s .dead)) (cond (m.testBit (2000+(i+s))) (fO 1 (l.getD s .dead)) (l.getD s .dead))
 | i,[],s=>by
  simp only[mD,List.getD_nil];cases m.testBit (1000+(i+s))<;>cases m.testBit (2000+(i+s))<;>rfl
 | i,v::l,0=>by
  simp only[mD,List.getD_cons_zero,Nat.add_zero]
 | i,v::l,s+1=>by
  simp only[mD,List.getD_cons_succ];rw[YE,show i+1+s=i+(s+1)by omega]
theorem YF:{i:Nat}->{l:List V}->(mD m i l).length=l.length
 | _,[]=>rfl
 | i,v::l=>by simp[mD,YF]
theorem Ds[af]{ks:Option Nat}{K:List V->Option R}(h:fF ks T K=some r)(hJ:J w0 L0 vs E A0 T a w):∃T',K T'=some r/\J w0 L0 vs E A0 T' a w:=by
 unfold fF at h;split at h
 ·exact⟨T,h,hJ⟩
 ·rename_i m;cases hc:qG m T 0 T with
  | false=>rw[hc]at h;cases h
  | true =>
   rw[hc]at h;simp only[cond_true]at h;obtain⟨⟨L,hI⟩,hp⟩:=hJ;have hk:Inv w0 L0 E.N vs (fm m 0 T) a w _:=Inv.kill hI (λs => !m.testBit s) (by rw[ZW,hI.len]) (λs=>by
    rw[ZV,Nat.zero_add];cases m.testBit s<;>rfl) (λs r hs mv kn=>by
    have:=ZX hc s r (by simpa using hs) (by simpa[V.on]using mv);rcases this with h|h
    ·simp[h]
    ·rw[h]at kn;cases kn)
   cases hd:decide (m<2 ^ 1000)with
   | true=>rw[hd]at h;exact⟨_,h,⟨_,hk⟩,hp⟩
   | false =>
    rw[hd]at h;simp only[cond_false]at h;cases he:qz m (fm m 0 T) 0 (fm m 0 T)with
    | false=>rw[he]at h;cases h
    | true =>
     rw[he]at h;have hfz:∀v:V,fO (min 1 v.lvl) v=fO 1 v:=λv=>by
      cases v<;>simp[fO,V.lvl,Nat.min_assoc]
     refine⟨_,h,Inv.freeze hk (X:=λs=>(m.testBit (1000+s)||m.testBit (2000+s))&&decide (s<(fm m 0 T).length)) (lev:=λs=>cond (m.testBit (1000+s)) 0 (min 1 ((fm m 0 T).getD s .dead).lvl)) (λz r hr=>?_) (λs hs=>?_) (λs hs=>?_) (by rw[YF,hk.len]) (λz=>?_),hp⟩
     ·rw[Bool.and_eq_true,decide_eq_true_eq]at hr;have:=(KN he r hr.2 (by rw[Nat.zero_add];exact hr.1)).2;rw[Nat.zero_add]at this;exact aaM this z
     ·rw[Bool.and_eq_true,decide_eq_true_eq]at hs;exact (KN he s hs.2 (by rw[Nat.zero_add];exact hs.1)).1
     ·show cond _ _ _<=_;cases m.testBit (1000+s)
      ·exact Nat.min_le_right _ _
      ·exact Nat.zero_le _
     ·rw[YE,Nat.zero_add];by_cases hz:z<(fm m 0 T).length
      ·rw[decide_eq_true hz,Bool.and_true];cases m.testBit (1000+z)<;>cases m.testBit (2000+z)
       ·rfl
       ·exact (hfz _).symm
       ·rfl
       ·rfl
      ·rw[decide_eq_false hz,Bool.and_false,List.getD_eq_getElem?_getD,List.getElem?_eq_none (by omega)];cases m.testBit (1000+z)<;>cases m.testBit (2000+z)<;>rfl
def agM[af]{R:Type}(w0:World)(L0:Nat->aj)(vs:List Nat)(E:Env)(A0:Array Value)(k:Ex->List V->Option R)(r:R):Exit->Act->World->Prop :=
 λe a' w'=>∃ex T',e=ex.ex/\k ex T'=some r/\J w0 L0 vs E A0 T' a' w'
theorem pY[af](ba:sj P w0 L0 vs E):{c:Code}->{k:Ex->List V->Option R}->{T:List V}->az E c k T=some r->∀a w,J w0 L0 vs E A0 T a w->c.wp P (agM w0 L0 vs E A0 k r) a w
 | .skip,k,T,h,a,w,hJ=>wp_skip ⟨.bJ,T,rfl,h,hJ⟩
 | .label _,k,T,h,a,w,hJ=>wp_label ⟨.bJ,T,rfl,h,hJ⟩
 | .exit id,k,T,h,a,w,hJ=>wp_exit ⟨.ext id,T,rfl,h,hJ⟩
 | .ret,k,T,h,a,w,hJ=>wp_ret ⟨.ret,T,rfl,h,hJ⟩
 | .region id ops draw,k,T,h,a,w,hJ=>by
  simp only[az]at h;obtain⟨T1,h1,wg⟩:=Ds h hJ;refine wp_mono (aqp ba h1 wg) ?_
  rintro e a' w' ⟨rfl,T',hk,eK⟩
  exact⟨.bJ,T',rfl,hk,eK⟩
 | .seq x y,k,T,h,a,w,hJ=>by
  simp only[az]at h;refine wp_seq (wp_mono (pY ba h a w hJ) ?_)
  rintro e a' w' ⟨ex,T',rfl,hk,eK⟩
  cases ex with
  | bJ =>
   obtain⟨T1,h1,wg⟩:=Ds hk eK;exact pY ba h1 a' w' wg
  | ext i=>exact⟨.ext i,T',rfl,hk,eK⟩
  | ret=>exact⟨.ret,T',rfl,hk,eK⟩
 | .cond c x y,k,T,h,a,w,hJ=>by
  cases c with
  | tmp t =>
   simp only[az]at h;split at h
   ·rename_i l0 n0 b hT;have hb:a.eval (.tmp t) = .bool b:=by
     obtain⟨⟨L,hI⟩,_⟩:=hJ;have hs:=hI.aY t;rw[hT]at hs;exact hs.bool
    have eV:∀b',T.getD t .dead = .d l0 n0 .bool b'->T.set t (.d l0 n0 .bool b')=T:=λb' hT=>abC hT (by simp);refine wp_cond hb ?_;cases b with
    | true =>
     simp only[cond_true]at h;rw[eV true hT]at h;exact pY ba h a w hJ
    | false =>
     simp only[cond_false]at h;rw[eV false hT]at h;exact pY ba h a w hJ
   ·cases h
  | const _=>simp[az]at h
  | func _=>simp[az]at h
  | global _=>simp[az]at h
 | .block id c,k,T,h,a,w,hJ=>by
  simp only[az]at h;refine wp_block (wp_mono (pY ba h a w hJ) ?_)
  rintro e a' w' ⟨ex,T',rfl,hk,eK⟩
  cases ex with
  | bJ=>exact⟨.bJ,T',rfl,hk,eK⟩
  | ext i =>
   dsimp only at hk;simp only[Ex.ex,Exit.inBlock];by_cases hi:i=id
   ·subst hi;rw[if_pos rfl];simp only[beq_self_eq_true,cond_true]at hk;exact⟨.bJ,T',rfl,hk,eK⟩
   ·rw[if_neg hi];have:(i==id)=false:=by simpa using hi
    rw[this]at hk;exact⟨.ext i,T',rfl,hk,eK⟩
  | ret=>exact⟨.ret,T',rfl,hk,eK⟩
 | .loop c,k,T,h,a,w,hJ=>by
  simp only[az]at h;obtain⟨T1,h1,wg⟩:=Ds h hJ;let B:(List V->Option R)->List V->Option R:=λself T=>az E c (λe T'=>match e with
    | .bJ=>fF (E.aT (gU c)) T' self
    | .ext i=>k (.ext i) T'
    | .ret=>k .ret T') T
  let I:Nat->Act->World->Prop:=λn a w=>∃T,iW B n T=some r/\J w0 L0 vs E A0 T a w;have hex:∃n,I n a w:=by
   obtain⟨n,hn⟩:=(oP (ab5 k)).1 h1;exact⟨n,T1,hn,wg⟩
  have wQ:∀a w,(∃n,I n a w)->∃n,I n a w/\∀m,I m a w->n<=m:=by
   intro a w ⟨n,hn⟩;induction n using Nat.strongRecOn with
   | _ n ih =>
    by_cases hm:∃m,m<n/\I m a w
    ·obtain⟨m,hm,hI⟩:=hm;exact ih m hm hI
    ·refine⟨n,hn,λm hI=>?_⟩;rcases Nat.lt_or_ge m n with h|h
     ·exact absurd ⟨m,h,hI⟩ hm
     ·exact h
  let μ:Act->World->Nat:=λa w=>open Classical in if h:∃n,I n a w then Classical.choose (wQ a w h)else 0
  refine wp_loop (λa w=>∃n,I n a w) μ hex (λa w hI=>?_);have hμ:μ a w=Classical.choose (wQ a w hI):=dif_pos hI;obtain⟨⟨T2,wL,hJ2⟩,hle⟩:=Classical.choose_spec (wQ a w hI);rw[<-hμ]at wL hle;generalize hn:μ a w=n at wL hle;cases n with
  | zero=>cases wL
  | succ n =>
   simp only[iW,B]at wL;refine wp_mono (pY ba wL a w hJ2) ?_
   rintro e a' w' ⟨ex,T',rfl,hk,eK⟩
   cases ex with
   | bJ =>
    dsimp only at hk;obtain⟨T3,h3,Xv⟩:=Ds hk eK;have iM:∃n,I n a' w':=⟨n,T3,h3,Xv⟩;refine⟨iM,?_⟩;have hμ':μ a' w'=Classical.choose (wQ a' w' iM):=dif_pos iM;rw[hμ'];have:=(Classical.choose_spec (wQ a' w' iM)).2 n ⟨T3,h3,Xv⟩;omega
   | ext i=>exact⟨.ext i,T',rfl,hk,eK⟩
   | ret=>exact⟨.ret,T',rfl,hk,eK⟩
 | .rangeFunc ..,k,T,h,_,_,_=>by simp[az]at h
 | .scope _,k,T,h,_,_,_=>by simp[az]at h
 | .goto _,k,T,h,_,_,_=>by simp[az]at h
 | .refuse _,k,T,h,_,_,_=>by simp[az]at h
end
def gf(p:List St):V->(t':Ty)->t'.den->M V
 | .box l n t x,t',y=>(fo p t x t' y).bind λx2=>.ret (.box l n t x2)
 | .d l n t x,t',y=>match p with
  | .idx sz i::p'=>(fo (.idx sz i::p') t x t' y).bind λx2=>.ret (.d l n t x2)
  | _=>.fail
 | _,_,_=>.fail
def Eg(q:List Nat)(o sz:Nat)(z:List Nat):Bool:=match cut q z with
 | some (y::_)=>decide (o<=y)&&decide (y<o+sz)
 | _=>false
def dQ(r:Nat)(q:List Nat)(o sz m:Nat)(src:Option Nat):Nat->List Nat->aj:=λs z =>
 if s=r then (if src.isSome&&Eg q o sz z then .other else .own r z)
 else if src=some s then match z with
  | y::rest=>if y<sz then (if rest.length<m then .own r (q++(o+y)::rest)else .au)else .other
  | []=>.other
 else .own s z
def ca(root:V)(src:Option Nat):V->Bool
 | .ptr _ p _=>src.isNone||(shallow p && !root.dG)
 | .view _ [] _=>root.dG
 | _=>false
section
variable{P:Program}{C:Ctx}{w w' w0:World}{S S':Nat->Prop}{L L' L0:Nat->aj}{s N:Nat}{vs:List Nat}{T T':List V}{tm tm':Array Value}{a:Act}
theorem qV:{p:List St}->{q:List Nat}->{o:Nat}->shallow p=true->(node q o p).1=q
 | [],_,_,_=>rfl
 | .a7 _ _::p,_,_,h=>qV (p:=p) h
 | .idx _ _::_,_,_,h=>by cases h
theorem ra[af]{o sz:Nat}{z:List Nat}:Eg q o sz z=true↔kV q o sz z:=by
 unfold Eg;constructor
 ·intro h;split at h
  ·rename_i y rest hc;simp only[Bool.and_eq_true,decide_eq_true_eq]at h;refine⟨y - o,rest,by omega,?_⟩;rw[oJ hc];congr 2;omega
  ·cases h
 ·rintro⟨d,rest,hd,rfl⟩
  rw[nw];simp;omega
theorem qZ[af]{r:Nat}{o sz:Nat}{src:Option Nat}(bu:src≠some r){s s':Nat}{z z':List Nat}(h:dQ r q o sz m src s z = .own s' z'):
  (s=r/\s'=r/\z'=z/\(src.isSome=true->¬kV q o sz z))\/(src=some s/\s'=r/\∃y rest,z=y::rest/\y<sz/\z'=q++(o+y)::rest)\/(s≠r/\src≠some s/\s'=s/\z'=z):=by
 unfold dQ at h;split at h
 ·rename_i hs;split at h
  ·cases h
  ·rename_i hc;injection h with h1 h2;refine .inl ⟨hs,h1.symm,h2.symm,λhi hu=>hc ?_⟩;rw[hi,ra.2 hu];rfl
 ·split at h
  ·split at h
   ·split at h
    ·split at h
     ·injection h with h1 h2;exact .inr (.inl ⟨by assumption,h1.symm,_,_,rfl,by assumption,h2.symm⟩)
     ·cases h
    ·cases h
   ·cases h
  ·injection h with h1 h2;exact .inr (.inr ⟨by assumption,by assumption,h1.symm,h2.symm⟩)
theorem abH[af]{r:Nat}{o sz:Nat}{src:Option Nat}(bu:src≠some r){X:Nat->Prop}(J0:X r)(iO:∀s,src=some s->X s):fL (dQ r q o sz m src) X:=by
 refine⟨λs z hX=>?_,λs z s' z' hX h=>?_,λs z s2 z2 s' z' h1 h2=>?_,λs z=>?_⟩
 ·unfold dQ;rw[if_neg (λe:s=r=>hX (e▸J0)),if_neg (λe=>hX (iO s e))]
 ·rcases qZ bu h with⟨_,rfl,_⟩|⟨_,rfl,_⟩|⟨_,_,rfl,_⟩
  ·exact J0
  ·exact J0
  ·exact hX
 ·rcases qZ bu h1 with⟨rfl,rfl,rfl,hu⟩|⟨e1,rfl,y,rest,rfl,hy,rfl⟩|⟨e1,e2,rfl,rfl⟩
  ·rcases qZ bu h2 with⟨rfl,_,h4,_⟩|⟨e1,_,y,rest,rfl,hy,he⟩|⟨e1,e2,h3,h4⟩
   ·exact⟨rfl,h4⟩
   ·exact absurd ⟨y,rest,hy,he⟩ (hu (by rw[e1];rfl))
   ·exact absurd h3.symm e1
  ·rcases qZ bu h2 with⟨rfl,_,h4,hu⟩|⟨e2,_,y2,LX,rfl,tp,he⟩|⟨e2,e3,h3,h4⟩
   ·exact absurd ⟨y,rest,hy,h4.symm⟩ (hu (by rw[e1];rfl))
   ·have he:=List.append_cancel_left he;injection he with nH me;rw[e1]at e2;injection e2 with e2;exact⟨e2,by rw[show y=y2 by omega,me]⟩
   ·exact absurd h3.symm e2
  ·rcases qZ bu h2 with⟨h3,h5,_⟩|⟨e3,h5,_⟩|⟨e3,e4,h3,h4⟩
   ·exact absurd h5 e1
   ·exact absurd h5 e1
   ·exact⟨h3,h4⟩
 ·unfold dQ
  repeat' split
  all_goals simp
theorem Lo{u:V}{y:t'.den}(h:(gf p u t' y).ai T u' log):u'.root=u.root/\u'.aM=u.aM/\u'.deep=u.deep/\u'.dG=u.dG:=by
 cases u with
 | box l n t x =>
  obtain⟨x2,l1,l2,rfl,h1,h2⟩:=M.aq h;obtain⟨rfl,_⟩:=h2;exact⟨rfl,rfl,rfl,rfl⟩
 | d l n t x =>
  simp only[gf]at h;split at h
  ·obtain⟨x2,l1,l2,rfl,h1,h2⟩:=M.aq h;obtain⟨rfl,_⟩:=h2;exact⟨rfl,rfl,rfl,rfl⟩
  ·exact h.elim
 | dead=>exact h.elim
 | bF _=>exact h.elim
 | rp _ _ _=>exact h.elim
 | ptr _ _ _=>exact h.elim
 | view _ _ _=>exact h.elim
 | hole _ _=>exact h.elim
 | part _ _ _ _ _=>exact h.elim
 | bP _ _ _ _=>exact h.elim
 | same _ _=>exact h.elim
theorem aaB{l:Option Nat}{n:Nat}{x:t.den}{y:t'.den}(h:(gf p (.d l n t x) t' y).ai T u' log):∃x2,u' = .d l n t x2:=by
 simp only[gf]at h;split at h
 ·obtain⟨x2,l1,l2,rfl,h1,h2⟩:=M.aq h;obtain⟨rfl,_⟩:=h2;exact⟨x2,rfl⟩
 ·exact h.elim
theorem Ln{T1 T2:List V}{tm1 tm2:Array Value}{p:List St}{u:V}{l:Option Nat}{n':Nat}{x' y:t'.den}{log2:List Nat}{r g':Nat}{cur cur':Array Value}{e':TypeId}{c:Value}
  (hs:aD L T1 tm1 r u w c) (hz:(dI p u).ai T (l,⟨n',t',x'⟩) log) (hm:(gf p u t' y).ai T u' log2) (cF:∀r',u.root=some r'->(T2.getD r' .dead).deep=true)
  (hu:Cq w w' L L' (SL L u.root) (SL L' u.root) r (node [] 0 p).1 (node [] 0 p).2 t'.sz g' cur cur' e')
  (hy:Own w' L' (SL L' u.root) r n' t' y (node [] 0 p).1 (node [] 0 p).2 ((cur'.toList.drop (node [] 0 p).2).take t'.sz)):aD L' T2 tm2 r u' w' c:=by
 cases u with
 | box l0 n t x =>
  obtain⟨zz,l1,l2,rfl,h1,h2⟩:=M.aq hz;obtain⟨h2,_⟩:=h2;cases h2;obtain⟨x2,l3,l4,rfl,h3,h4⟩:=M.aq hm;obtain⟨rfl,_⟩:=h4;obtain⟨h0,g,akX,e,k1,k2,k3,k4,k5⟩:=hs;obtain⟨ff,j1,j2,j3,j4,j5⟩:=DH (q:=[]) (o:=0) (g1:=g) (cur1:=akX) (e1:=e) hu hy rfl k2 k3 (by omega) (by
   rw[List.drop_zero,List.take_of_length_le (by rw[<-k4];simp)];exact k5) h1 h3
  refine⟨λr' aZ=>cF r' aZ,g,ff,e,k1,j2,j1,by rw[j3];exact k4,?_⟩;rw[List.drop_zero,List.take_of_length_le (by rw[<-k4,<-j3];simp)]at j5;exact j5
 | d l0 n t x =>
  simp only[dI]at hz;split at hz
  ·rename_i sz i p';obtain⟨zz,l1,l2,rfl,h1,h2⟩:=M.aq hz;obtain⟨h2,_⟩:=h2;cases h2;simp only[gf]at hm;obtain⟨x2,l3,l4,rfl,h3,h4⟩:=M.aq hm;obtain⟨rfl,_⟩:=h4;obtain⟨h0,cs,k1,k2⟩:=hs;cases t<;>cases n<;>simp only[aR]at h1<;>try exact h1.elim
   rename_i e t n;split at h1
   ·rename_i bq;subst bq;obtain⟨y0,jB,h1⟩:=h1;simp only[fo,if_true]at h3;obtain⟨y9,xe,h3⟩:=h3;obtain rfl:y0=y9:=by rw[jB]at xe;exact Option.some.inj xe
    obtain⟨z2,l5,l6,rfl,h5,h6⟩:=M.aq h3;obtain⟨w9,qw,rfl,_⟩:=h6;injection qw with qw;subst qw;obtain⟨hi,kg,rfl⟩:=ma jB;simp only[Own]at k2;rcases k2 with⟨_,rfl⟩|⟨g2,cap,ff,dh,hL,hg,m1,m2,m3,m4⟩
    ·exact absurd hi (by simp)
    ·have hb:i.toNat*t.sz+t.sz<=ff.size:=by
      rw[m3]
      calc i.toNat*t.sz+t.sz=(i.toNat+1)*t.sz:=by rw[Nat.add_mul,Nat.one_mul]
       _<=cap*t.sz:=Nat.mul_le_mul_right _ (by omega)
     have hL2:L g2 = .own r ([]++[0]):=hL;obtain⟨Cy,j1,j2,j3,j4,j5⟩:=DH hu hy (p:=p') (q:=[]++[0]) (o:=i.toNat*t.sz) (g1:=g2) (cur1:=ff) (e1:=e) rfl hL2 hg hb (m4 _ hi) h1 h5;have mz:Reach ([]++[0]) (i.toNat*t.sz) t.sz (node [] 0 (St.idx t.sz i::p')).1 (node [] 0 (St.idx t.sz i::p')).2 t'.sz:=sP (q:=[]++[0]) (o:=i.toNat*t.sz) h1;refine⟨λr' aZ=>cF r' aZ,cs,k1,?_⟩;simp only[Own];refine .inr ⟨g2,cap,Cy,by rw[dh];simp,j2,j1,by simpa using m1,m2,by rw[j3];exact m3,λj hj=>?_⟩;simp only[List.length_set]at hj;by_cases cR:j=i.toNat
     ·subst cR;have:(x.set i.toNat z2)[i.toNat]'(by simpa using hi)=z2:=List.getElem_set_self _;rw[this];exact j5
     ·have he:(x.set i.toNat z2)[j]'(by simpa using hj)=x[j]:=List.getElem_set_ne (λe=>cR e.symm) _;rw[he];have hd:(j*t.sz+t.sz<=i.toNat*t.sz)\/(i.toNat*t.sz+t.sz<=j*t.sz):=by
       rcases Nat.lt_or_gt_of_ne cR with h|h
       ·left
        calc j*t.sz+t.sz=(j+1)*t.sz:=by rw[Nat.add_mul,Nat.one_mul]
         _<=i.toNat*t.sz:=Nat.mul_le_mul_right _ h
       ·right
        calc i.toNat*t.sz+t.sz=(i.toNat+1)*t.sz:=by rw[Nat.add_mul,Nat.one_mul]
         _<=j*t.sz:=Nat.mul_le_mul_right _ h
      rw[uc (cur:=ff) (λi' h1 h2=>j4 i' (by omega))];exact Own.tW hu mz (by omega) (m4 j hj)
   ·exact h1.elim
  ·exact hz.elim
 | dead=>exact hz.elim
 | bF _=>exact hz.elim
 | rp _ _ _=>exact hz.elim
 | ptr _ _ _=>exact hz.elim
 | view _ _ _=>exact hz.elim
 | hole _ _=>exact hz.elim
 | part _ _ _ _ _=>exact hz.elim
 | bP _ _ _ _=>exact hm.elim
 | same _ _=>exact hz.elim
def putCells(cur:Array Value)(o:Nat)(cs:List Value):Array Value:=(cur.toList.take o++cs++cur.toList.drop (o+cs.length)).toArray
theorem DX{cur:Array Value}{o:Nat}{cs:List Value}(h:o+cs.length<=cur.size):(putCells cur o cs).size=cur.size:=by
 simp[putCells];omega
theorem DV{cur:Array Value}{o:Nat}{cs:List Value}(h:o+cs.length<=cur.size):((putCells cur o cs).toList.drop o).take cs.length=cs:=by
 have:(cur.toList.take o).length=o:=by simp;omega
 simp only[putCells,List.append_assoc];rw[List.drop_left' this,List.take_left' rfl]
theorem DW{cur:Array Value}{o:Nat}{cs:List Value}(h:o+cs.length<=cur.size)(i:Nat)(hi:i<o\/o+cs.length<=i):(putCells cur o cs)[i]?=cur[i]?:=by
 have hl:(cur.toList.take o).length=o:=by simp;omega
 simp only[putCells,List.getElem?_toArray];rcases hi with hi|hi
 ·rw[List.append_assoc,List.getElem?_append_left (by omega),List.getElem?_take_of_lt hi];simp
 ·rw[List.getElem?_append_right (by simp;omega),List.getElem?_drop];simp only[List.length_append,hl];rw[show o+cs.length+(i - (o+cs.length))=i by omega];simp
theorem Inv.store[af](hI:Inv w0 L0 N vs T a w L){r:Nat}{u:V}{l:Option Nat}{n' m:Nat}{x' y:t'.den}{log2:List Nat}{src:Option Nat}{g':Nat}{cur:Array Value}{e:TypeId}{cs:List Value}
  (hr:T.getD r .dead=u) (hz:(dI p u).ai T (l,⟨n',t',x'⟩) log) (hm:(gf p u t' y).ai T u' log2) (mC:u.root≠some r)
  (hg:L g' = .own r (node [] 0 p).1) (hh:w.heap[g']?=some (.cells cur e (0,0))) (bq:(node [] 0 p).2+t'.sz<=cur.size) (hlen:cs.length=t'.sz)
  (c7:∀s,src=some s->s≠r/\s∉vs/\T'.getD s .dead = .dead/\(T.getD s .dead).root=none) (lg:T'.length=N) (bE:T'.getD r .dead=u')
  (hT:∀s,s≠r->src≠some s->(T.getD s .dead).on r=true->(T'.getD s .dead = .dead/\(T.getD s .dead).aM=false)\/(T'.getD s .dead=T.getD s .dead/\(ca u src (T.getD s .dead)=true\/(src=none/\shallow p=false/\u.dG=false/\∃p2 t2,T.getD s .dead = .view r p2 t2/\(node [] 0 p2).1≠(node [] 0 p).1))))
  (iN:∀s,s≠r->src≠some s->(T.getD s .dead).on r=false->T'.getD s .dead=T.getD s .dead)
  (hy:Own (w.setRow g' (putCells cur (node [] 0 p).2 cs)) (aU (dQ r (node [] 0 p).1 (node [] 0 p).2 t'.sz m src) w L (λ_=>.free)) (SL (aU (dQ r (node [] 0 p).1 (node [] 0 p).2 t'.sz m src) w L (λ_=>.free)) u.root) r n' t' y (node [] 0 p).1 (node [] 0 p).2 cs) :
  Inv w0 L0 N vs T' a (w.setRow g' (putCells cur (node [] 0 p).2 cs)) (aU (dQ r (node [] 0 p).1 (node [] 0 p).2 t'.sz m src) w L (λ_=>.free)):=by
 obtain⟨mB,wX,wz,C9⟩:=Lo hm;have bu:src≠some r:=λe=>(c7 r e).1 rfl;have bd:=hI.aY r;rw[hr]at bd;obtain⟨_,th,_,ix,mh⟩:=lC hz bd;have hl:u.root=l:=by
  cases u with
  | box l0 n t x =>
   obtain⟨zz,l1,l2,rfl,h1,h2⟩:=M.aq hz;obtain⟨h2,_⟩:=h2;cases h2;rfl
  | d l0 n t x =>
   simp only[dI]at hz;split at hz
   ·obtain⟨zz,l1,l2,rfl,h1,h2⟩:=M.aq hz;obtain⟨h2,_⟩:=h2;cases h2;rfl
   ·exact hz.elim
  | dead=>exact hz.elim
  | bF _=>exact hz.elim
  | rp _ _ _=>exact hz.elim
  | ptr _ _ _=>exact hz.elim
  | view _ _ _=>exact hz.elim
  | hole _ _=>exact hz.elim
  | part _ _ _ _ _=>exact hz.elim
  | bP _ _ _ _=>exact (Lz hz bd).2.1.symm
  | same _ _=>exact hz.elim
 let X:Nat->Prop:=λs=>s=r\/src=some s\/(T.getD s .dead).on r=true;have kf:fL (dQ r (node [] 0 p).1 (node [] 0 p).2 t'.sz m src) X:=abH bu (.inl rfl) (λs h=>.inr (.inl h));have lp:∀k,k≠g'->(w.setRow g' (putCells cur (node [] 0 p).2 cs)).heap[k]?=w.heap[k]?:=λk hk=>setRow_other w g' k _ hk;have KI:Wd w (w.setRow g' (putCells cur (node [] 0 p).2 cs)) L (λ_=>.free) X:=by
  refine⟨rfl,rfl,rfl,by simp[World.setRow],Nat.le_refl _,λk hk hx=>lp k ?_,λ_ _=>rfl,λ_ _ _ _ h=>by cases h⟩
  rintro rfl
  exact hx r _ hg (.inl rfl)
 have tg:∀r',u.root=some r'->¬X r':=by
  intro r' aZ hx;have hd:(T.getD r' .dead).deep=true:=th r' (by rw[<-hl];exact aZ);have ho:=V.fq hd;rcases hx with rfl|hx|hx
  ·exact mC aZ
  ·have:=hI.roots r r' (by rw[hr];simp[V.on,aZ]);exact (c7 r' hx).2.1 this
  ·by_cases gw:r'=r
   ·exact mC (by rw[<-gw];exact aZ)
   ·by_cases bN:src=some r'
    ·exact (c7 r' bN).2.1 (hI.roots r r' (by rw[hr];simp[V.on,aZ]))
    ·rcases hT r' gw bN hx with⟨_,h⟩|⟨_,h|⟨_,_,_,p2,t2,h,_⟩⟩
     ·rw[h]at ho;cases ho
     ·generalize T.getD r' .dead=v at h ho;cases v<;>simp[ca]at h<;>simp[V.aM]at ho
     ·rw[h]at ho;cases ho
 have Yg:∀s,¬X s->T'.getD s .dead=T.getD s .dead:=by
  intro s hs;have hs:=not_or.1 hs;have ef:=not_or.1 hs.2;exact iN s hs.1 ef.1 (by simpa using ef.2)
 refine Inv.gY (X:=X) hI kf KI (λ_ _ _ _ _ h=>by cases h) hI.size lg hI.dR ?_ ?_ (λs hs=>⟨Yg s hs,rfl⟩) ?_ ?_
 ·
  intro k s q hX h;by_cases hs:s=r
  ·subst hs;rw[bE,wX];exact ix
  ·unfold aU at h;split at h
   ·obtain⟨s0,q0,e0,f0⟩:=eZ h;rcases qZ bu f0 with⟨_,rfl,_⟩|⟨_,rfl,_⟩|⟨h1,h2,rfl,rfl⟩
    ·exact absurd rfl hs
    ·exact absurd rfl hs
    ·have ho:=hI.owner k s q e0;rcases hX with h3|h3|h3
     ·exact absurd h3 hs
     ·exact absurd h3 h2
     ·rcases hT s hs h2 h3 with⟨_,h⟩|⟨h4,_⟩
      ·rw[h]at ho;cases ho
      ·rw[h4];exact ho
   ·cases h
 ·intro s r' hs ag aZ;rcases aZ with rfl|aZ|aZ
  ·exact absurd (.inr (.inr ag)) hs
  ·exact absurd (hI.roots s r' ag) (c7 r' aZ).2.1
  ·by_cases gw:r'=r
   ·subst gw;exact absurd (.inr (.inr ag)) hs
   ·by_cases bN:src=some r'
    ·exact absurd (hI.roots s r' ag) (c7 r' bN).2.1
    ·rcases hT r' gw bN aZ with⟨_,h⟩|⟨_,h|⟨_,_,_,p2,t2,h,_⟩⟩
     ·exact h
     ·generalize T.getD r' .dead=v at h;cases v<;>simp[ca]at h<;>simp[V.aM]
     ·rw[h];rfl
 ·intro s r' hX ag;by_cases hs:s=r
  ·subst hs;rw[bE]at ag;refine hI.roots s r' ?_;rw[hr];simpa[V.on,mB]using ag
  ·by_cases bN:src=some s
   ·rw[(c7 s bN).2.2.1]at ag;simp[V.on,V.root]at ag
   ·cases ho:(T.getD s .dead).on r with
    | false =>
     rw[iN s hs bN ho]at ag;exact hI.roots s r' ag
    | true =>
     rcases hT s hs bN ho with⟨h,_⟩|⟨h,_⟩
     ·rw[h]at ag;simp[V.on,V.root]at ag
     ·rw[h]at ag;exact hI.roots s r' ag
 ·intro s hX;have gS:aU (dQ r (node [] 0 p).1 (node [] 0 p).2 t'.sz m src) w L (λ_=>.free) g' = .own r (node [] 0 p).1:=by
   rw[c8 hI (by rw[hg];simp),hg];simp only[eR,dQ];rw[if_pos trivial,if_neg];intro h;simp only[Bool.and_eq_true]at h;obtain⟨d,rest,_,h⟩:=ra.1 h.2;have:=congrArg List.length h;simp at this
  have Yf:∀k q,src=none->L k = .own r q->aU (dQ r (node [] 0 p).1 (node [] 0 p).2 t'.sz m src) w L (λ_=>.free) k = .own r q:=by
   intro k q hn hk;rw[c8 hI (by rw[hk];simp),hk];simp[eR,dQ,hn]
  by_cases hs:s=r
  ·subst hs;rw[bE];have qc:((putCells cur (node [] 0 p).2 cs).toList.drop (node [] 0 p).2).take t'.sz=cs:=by
    have:=DV (cur:=cur) (o:=(node [] 0 p).2) (cs:=cs) (by omega)
    rwa [hlen]at this
   refine Ln (cur:=cur) (e':=e) (g':=g') (cur':=putCells cur (node [] 0 p).2 cs) bd hz hm (λr' aZ=>?_) ?_ (by rw[qc];exact hy)
   ·rw[Yg r' (tg r' aZ)];exact th r' (by rw[<-hl];exact aZ)
   ·refine⟨λk hk=>?_,λk q2 hk hq hu=>?_,hg,gS,hh,setRow_heap w g' cur _ e _ hh,DX (by omega),λi hi=>DW (by omega) i (by omega),λk hk=>hI.inj k g' s _ hk hg⟩
    ·rcases hk with hk|⟨r',q,aZ,hk⟩
     ·exact⟨.inl (eD hI hk),lp k (by rintro rfl;rw[hg]at hk;cases hk)⟩
     ·refine⟨.inr ⟨r',q,aZ,xy hI kf hk (tg r' aZ)⟩,lp k ?_⟩
      rintro rfl
      rw[hg]at hk;injection hk with hk _;exact tg r' aZ (.inl hk.symm)
    ·refine⟨?_,lp k ?_⟩
     ·rw[c8 hI (by rw[hk];simp),hk];simp only[eR,dQ];rw[if_pos trivial,if_neg];intro h;simp only[Bool.and_eq_true]at h;exact hu (ra.1 h.2)
     ·rintro rfl
      rw[hg]at hk;injection hk with _ hk;exact hq hk.symm
  ·by_cases bN:src=some s
   ·rw[(c7 s bN).2.2.1];trivial
   ·have ho:(T.getD s .dead).on r=true:=by
     rcases hX with h|h|h
     ·exact absurd h hs
     ·exact absurd h bN
     ·exact h
    rcases hT s hs bN ho with⟨h,_⟩|⟨h,hk|⟨iS,Yl,nW,p2,t2,cS,eC⟩⟩
    ·rw[h];trivial
    rotate_left
    ·rw[h];have tn:=hI.aY s;rw[cS]at tn ⊢;obtain⟨hd,h1⟩:=tn;refine⟨by rw[bE,wz];rw[hr]at hd;exact hd,.inr ?_⟩;rcases h1 with⟨_,_,l1,n1,x1,h2,_⟩|⟨g,cur1,e1,h1,h2,h3,h4,h5⟩
     ·rw[hr]at h2;rw[h2]at nW;cases nW
     ·have hgn:g≠g':=by
       rintro rfl
       rw[h2]at hg;injection hg with _ hg;exact eC hg
      exact⟨g,cur1,e1,by rw[bE,C9,nW];exact .inl rfl,Yf g _ iS h2,by rw[lp g hgn];exact h3,h4,h5⟩
    ·rw[h];have tn:=hI.aY s;generalize hv:T.getD s .dead=v at hk ho tn;cases v with
     | ptr r2 p2 t2 =>
      obtain⟨g,h1,h2⟩:=tn;have mA:r2=r:=by simpa[V.on,V.root]using ho
      subst mA;refine⟨g,h1,?_⟩;have hk:src.isNone=true\/shallow p2=true:=by
       simp only[ca,Bool.or_eq_true,Bool.and_eq_true]at hk;exact hk.imp id And.left
      rcases hk with hk|hk
      ·exact Yf g _ (by simpa using hk) h2
      ·rw[qV hk]at h2 ⊢;rw[c8 hI (by rw[h2];simp),h2];simp only[eR,dQ];rw[if_pos trivial,if_neg];intro h;simp only[Bool.and_eq_true]at h;obtain⟨d,rest,_,h⟩:=ra.1 h.2;have:=congrArg List.length h;simp at this
     | view r2 p2 t2 =>
      have mA:r2=r:=by simpa[V.on,V.root]using ho
      subst mA;cases p2 with
      | cons _ _=>simp[ca]at hk
      | nil =>
       obtain⟨hd,h1⟩:=tn;refine⟨by rw[bE,wz];rw[hr]at hd;exact hd,.inl ⟨rfl,?_,?_⟩⟩
       ·rcases h1 with⟨_,h2,_⟩|⟨_,_,_,h2,_⟩
        ·exact h2
        ·rw[hr]at h2;simp only[ca]at hk;rw[hk]at h2;simp at h2
       ·rcases h1 with⟨_,_,l1,n1,x1,h2,h3⟩|⟨_,_,_,h2,_⟩
        ·rw[hr]at h2;rw[bE];subst h2;obtain⟨x2,rfl⟩:=aaB hm;exact⟨_,_,_,rfl,h3⟩
        ·rw[hr]at h2;simp only[ca]at hk;rw[hk]at h2;simp at h2
     | dead=>simp[ca]at hk
     | bF _=>simp[ca]at hk
     | d _ _ _ _=>simp[ca]at hk
     | box _ _ _ _=>simp[ca]at hk
     | rp _ _ _=>simp[ca]at hk
     | hole _ _=>simp[ca]at hk
     | part _ _ _ _ _=>simp[ca]at hk
     | bP _ _ _ _=>simp[ca]at hk
     | same _ _=>simp[ca]at hk
end
end Go.Proofs.YtbhogmdpmkpinaaGreat.P.Am
