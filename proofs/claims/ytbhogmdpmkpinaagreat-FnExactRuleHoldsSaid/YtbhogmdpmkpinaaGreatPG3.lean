/- A part of the proof: Am18,Am19,Am20,Am21,Am22,Am23,Am24. No conditions. -/
import Derived.Test.YtbhogmdpmkpinaaGreatPG2
import Derived.Great.BuildSlice
import Derived.Orders
import Derived.Laws.CopyRow
set_option linter.unusedVariables false
set_option linter.unusedSimpArgs false
namespace Go.Proofs.YtbhogmdpmkpinaaGreat.P.Am
variable{d g k m o0:Nat}{R α:Type}{log q:List Nat}{o:Oper}{ms:List (Nat×Nat×Nat)}{r:R}{cur:Array Value}{t t':Ty}{ups:List (Nat×V)}{p:List St}{u':V}{cs:List Value}
def gb(d:Nat)(q:List Nat)(o0 m:Nat)(ms:List (Nat×Nat×Nat)):Nat->List Nat->aj:=λs z =>
 match ms.find? (λp=>p.1==s)with
 | some p=>match z with
  | y::rest=>if y<p.2.2 then (if rest.length<m then .own d (q++(o0+p.2.1+y)::rest)else .aq)else .other
  | []=>.other
 | none=>if s=d then .other else .own s z
def ah(T:List V)(ups:List (Nat×V)):List V:=ups.foldl (λT u=>T.set u.1 u.2) T
def cq:List Nat->Bool
 | []=>true
 | x::l => !l.contains x&&cq l
section
variable{P:Program}{C:Ctx}{w w' w0:World}{S S':Nat->Prop}{L L' L0:Nat->aj}{s N:Nat}{vs:List Nat}{T T':List V}{tm tm':Array Value}{a:Act}
theorem UI{s:Nat}{p:Nat×Nat×Nat}(h:ms.find? (λp=>p.1==s)=some p):p∈ms/\p.1=s:=by
 refine⟨List.mem_of_find?_eq_some h,?_⟩;have:=List.find?_some h;simpa using this
theorem pM(hn:cq (ms.map (·.1))=true){p:Nat×Nat×Nat}(h:p∈ms):ms.find? (λp'=>p'.1==p.1)=some p:=by
 induction ms with
 | nil=>cases h
 | cons x l ih =>
  simp only[List.map_cons,cq,Bool.and_eq_true,Bool.not_eq_true']at hn;rcases List.mem_cons.1 h with rfl|h
  ·simp
  ·have bn:x.1≠p.1:=λe=>by
    have:(l.map (·.1)).contains x.1=true:=by
     rw[List.contains_iff_mem,e];exact List.mem_map_of_mem h
    rw[hn.1]at this;cases this
   rw[List.find?_cons_of_neg (by simpa using bn)];exact ih hn.2 h
theorem eY.Ut{b:Nat}(h:eY b ms)(hn:cq (ms.map (·.1))=true):∀p p',p∈ms->p'∈ms->p.1≠p'.1->p.2.1+p.2.2<=p'.2.1\/p'.2.1+p'.2.2<=p.2.1:=by
 have lower:∀{ms:List (Nat×Nat×Nat)} {b:Nat},eY b ms->∀p∈ms,b<=p.2.1:=by
  intro ms;induction ms with
  | nil=>intro b _ p hp;cases hp
  | cons x l ih =>
   obtain⟨s,o,sz⟩:=x;intro b h p hp;rcases List.mem_cons.1 hp with rfl|hp
   ·exact h.1
   ·have:=ih h.2 p hp;have:=h.1;omega
 induction ms generalizing b with
 | nil=>intro p p' hp;cases hp
 | cons x l ih =>
  obtain⟨s,o,sz⟩:=x;simp only[List.map_cons,cq,Bool.and_eq_true,Bool.not_eq_true']at hn;intro p p' hp cB bn;rcases List.mem_cons.1 hp with rfl|hp
  ·rcases List.mem_cons.1 cB with rfl|cB
   ·exact absurd rfl bn
   ·exact .inl (lower h.2 p' cB)
  ·rcases List.mem_cons.1 cB with rfl|cB
   ·exact .inr (lower h.2 p hp)
   ·exact ih h.2 hn.2 p p' hp cB bn
theorem sn{s:Nat}{z:List Nat}{s':Nat}{z':List Nat}(h:gb d q o0 m ms s z = .own s' z'):
  (∃p y rest,ms.find? (λp=>p.1==s)=some p/\z=y::rest/\y<p.2.2/\s'=d/\z'=q++(o0+p.2.1+y)::rest)\/(ms.find? (λp=>p.1==s)=none/\s≠d/\s'=s/\z'=z):=by
 unfold gb at h;split at h
 ·rename_i p hp;split at h
  ·split at h
   ·split at h
    ·injection h with h1 h2;exact .inl ⟨p,_,_,hp,rfl,by assumption,h1.symm,h2.symm⟩
    ·cases h
   ·cases h
  ·cases h
 ·rename_i hp;split at h
  ·cases h
  ·injection h with h1 h2;exact .inr ⟨hp,by assumption,h1.symm,h2.symm⟩
theorem aio[af]{b:Nat}(hs:eY b ms)(hn:cq (ms.map (·.1))=true):fF (gb d q o0 m ms) (λs=>s=d\/s∈ms.map (·.1)):=by
 refine⟨λs z hX=>?_,λs z s' z' hX h=>?_,λs z s2 z2 s' z' h1 h2=>?_,λs z=>?_⟩
 ·have hX:=not_or.1 hX;have:ms.find? (λp=>p.1==s)=none:=by
   rw[List.find?_eq_none];intro p hp he;exact hX.2 (by rw[List.mem_map];exact⟨p,hp,by simpa using he⟩)
  simp[gb,this,hX.1]
 ·rcases sn h with⟨_,_,_,_,_,_,rfl,_⟩|⟨h1,h2,rfl,_⟩
  ·exact .inl rfl
  ·exact hX
 ·rcases sn h1 with⟨p,y,rest,hp,rfl,hy,rfl,rfl⟩|⟨hp,hd,rfl,rfl⟩
  ·rcases sn h2 with⟨p',y',fD,cB,rfl,hy',_,he⟩|⟨_,kU,h3,_⟩
   ·have he:=List.append_cancel_left he;injection he with nv lW;subst lW;obtain⟨m1,e1⟩:=UI hp;obtain⟨m2,e2⟩:=UI cB;by_cases bn:p.1=p'.1
    ·have Jj:p=p':=by
      have f1:=pM hn m1;have f2:=pM hn m2;rw[bn]at f1;rw[f1]at f2;exact Option.some.inj f2
     subst Jj;exact⟨e1.symm.trans e2,by rw[show y=y' by omega]⟩
    ·have:=hs.Ut hn p p' m1 m2 bn;omega
   ·exact absurd h3.symm kU
  ·rcases sn h2 with⟨_,_,_,_,_,_,h3,_⟩|⟨_,_,h3,h4⟩
   ·exact absurd h3 hd
   ·exact⟨h3,h4⟩
 ·unfold gb
  repeat' split
  all_goals simp
theorem U5[af]{nl:Nat->aj}(hI:Inv w0 L0 N vs T a w L)(hn:cq (ms.map (·.1))=true):
  lK L (aS (gb d q o0 m ms) w L nl) d q o0 m ms:=by
 intro s o sz hm k y rest hy hk;have hf:=pM hn hm;have:aS (gb d q o0 m ms) w L nl k=if rest.length<m then .own d (q++(o0+o+y)::rest)else .aq:=by
  rw[cX hI (by rw[hk];simp),hk];simp only[eN,gb,hf];rw[if_pos hy]
 refine⟨λh=>?_,λh=>?_⟩
 ·rw[this,if_pos h]
 ·rw[this,if_neg (by omega)]
theorem fa[af](ups:List (Nat×V))(T:List V)(s:Nat)(h:s∉ups.map (·.1)):(ah T ups).getD s .dead=T.getD s .dead:=by
 unfold ah;induction ups generalizing T with
 | nil=>rfl
 | cons u l ih =>
  simp only[List.map_cons,List.mem_cons,not_or]at h;simp only[List.foldl_cons];rw[ih _ h.2,aH,if_neg (λe=>h.1 e.1)]
theorem cF(ups:List (Nat×V))(T:List V):(ah T ups).length=T.length:=by
 unfold ah;induction ups generalizing T with
 | nil=>rfl
 | cons u l ih=>simp only[List.foldl_cons];rw[ih];simp
theorem lx(u1 u2:List (Nat×V))(T:List V):ah T (u1++u2)=ah (ah T u1) u2:=by
 simp[ah,List.foldl_append]
theorem Va[af](ss:List Nat)(T:List V)(s:Nat)(h:s∈ss):(ah T (ss.map λs=>(s,V.dead))).getD s .dead = .dead:=by
 unfold ah;induction ss generalizing T with
 | nil=>cases h
 | cons x l ih =>
  simp only[List.map_cons,List.foldl_cons];by_cases hl:s∈l
  ·exact ih _ hl
  ·rcases List.mem_cons.1 h with rfl|h
   ·have:=fa (l.map λs=>(s,V.dead)) (T.set s .dead) s (by simpa using hl);unfold ah at this;rw[this,aH];split
    ·rfl
    ·rename_i hh;exact eF (Nat.le_of_not_lt λhl=>hh ⟨rfl,hl⟩)
   ·exact absurd h hl
theorem Inv.U3[af](hI:Inv w0 L0 N vs T a w L){q:List Nat}{o0 m b hi:Nat}{n:Option Nat}{nl:Nat->aj}{v:V}{c:Value}(hd:d<N)(hid:(T.getD d .dead).idle=true)
  (hs:eY b ms) (hn:cq (ms.map (·.1))=true) (cW:rK T b hi n ms) (bc:∀s,s∈ms.map (·.1)->s∉vs)
  (hw:Wd w w' L nl (λs=>s=d\/s∈ms.map (·.1))) (hold:∀k,k<w.heap.size->w'.heap[k]?=w.heap[k]?) (gj:∀k k' q',w.heap.size<=k->nl k = .own d q'->aS (gb d q o0 m ms) w L nl k' = .own d q'->k=k') (cE:∀k s q',w.heap.size<=k->nl k = .own s q'->s=d)
  (hv:v.root=none) (Jz:∀k q',aS (gb d q o0 m ms) w L nl k = .own d q'->v.aL=true)
  (hr:∀T' tm',aB (aS (gb d q o0 m ms) w L nl) T' tm' d v w' c) :
  Inv w0 L0 N vs (ah T (ms.map (λp=>(p.1,V.dead))++[(d,v)])) (a.put (some d) c) w' (aS (gb d q o0 m ms) w L nl):=by
 have vP:d∉ms.map (·.1):=λh=>by
  obtain⟨p,hp,rfl⟩:=List.mem_map.1 h;obtain⟨_,_,m',t,x,h1,h2,h3,_⟩:=cW p.1 p.2.1 p.2.2 hp;rw[h1]at hid;simp[V.idle,V.aL,h2,h3]at hid
 have nF:ms.map (λp=>(p.1,V.dead))=(ms.map (·.1)).map λs=>(s,V.dead):=by simp[List.map_map]
 have hT:ah T (ms.map (λp=>(p.1,V.dead))++[(d,v)])=(ah T ((ms.map (·.1)).map λs=>(s,V.dead))).set d v:=by
  rw[lx,nF];rfl
 have hlen:(ah T ((ms.map (·.1)).map λs=>(s,V.dead))).length=N:=by rw[cF,hI.len]
 have bT:(ah T (ms.map (λp=>(p.1,V.dead))++[(d,v)])).getD d .dead=v:=by
  rw[hT,aH,if_pos ⟨rfl,by rw[hlen];exact hd⟩]
 have bI:∀s,s∈ms.map (·.1)->(ah T (ms.map (λp=>(p.1,V.dead))++[(d,v)])).getD s .dead = .dead:=by
  intro s hs;rw[hT,aH,if_neg (λe=>vP (by rw[<-e.1];exact hs))];exact Va _ _ _ hs
 have cA:(T.getD d .dead).aL=false:=V.kA hid;refine Inv.gP (X:=λs=>s=d\/s∈ms.map (·.1)) hI (aio hs hn) hw ?_ (by simp[Act.put,hI.size]) (by rw[hT,List.length_set,hlen]) hI.dP ?_ ?_ ?_ ?_ ?_
 ·intro k k' s q' hk h h';obtain rfl:=cE k s q' hk h;exact gj k k' q' hk h h'
 ·intro k s q' hX h;rcases hX with rfl|hX
  ·rw[bT];exact Jz k q' h
  ·exfalso;unfold aS at h;split at h
   ·obtain⟨s0,q0,e0,f0⟩:=eV h;rcases sn f0 with⟨_,_,_,_,_,_,rfl,_⟩|⟨h1,h2,rfl,_⟩
    ·exact vP hX
    ·rw[List.find?_eq_none]at h1;obtain⟨p,hp,rfl⟩:=List.mem_map.1 hX;exact h1 p hp (by simp)
   ·obtain rfl:=cE k s q' (by omega) h;exact vP hX
 ·intro s r hX ag hr;rcases hr with rfl|hr
  ·exact cA
  ·exact absurd (hI.roots s r ag) (bc r hr)
 ·intro s hX;have sw:=not_or.1 hX;rw[hT,aH,if_neg (λe=>sw.1 e.1),fa _ _ _ (by simpa[List.map_map]using sw.2)];refine⟨rfl,?_⟩;show (a.tmps.setIfInBounds d c).getD s undef=_;rw[dY,if_neg (λe=>sw.1 e.1)]
 ·intro s r hX ag;rcases hX with rfl|hX
  ·rw[bT]at ag;simp[V.on,hv]at ag
  ·rw[bI s hX]at ag;simp[V.on,V.root]at ag
 ·intro s hX;rcases hX with rfl|hX
  ·rw[bT];show aB _ _ _ _ _ _ ((a.tmps.setIfInBounds s c).getD s undef);rw[dY,if_pos ⟨rfl,by rw[hI.size];exact hd⟩];exact hr _ _
  ·rw[bI s hX];trivial
end
def HQ(C:Ctx)(vs:List Nat)(X:TypeId)(d:Nat)(parts:List (Nat×Operand)):M (List (Nat×V)):=
 match C.ty X with
 | some (.agg t)=>if t.eJ=true then (if parts.isEmpty=true then .ret [(d,.d none t.depth (.agg t) t.zero)]else .fail)else (ou C 0 0 t parts).bind λb =>
   if cq (b.ms.map (·.1))=true/\(b.ms.all λp => !vs.contains p.1)=true then
    .ret (b.ms.map (λp=>(p.1,V.dead))++[(d,.d none (b.n.getD t.depth) (.agg t) b.x)])
   else .fail
 | _=>.fail
structure Bs (t:Ty) where
 xs:List t.den
 n:Option Nat
 ms:List (Nat×Nat×Nat)
def xl(C:Ctx)(t:Ty):(j left:Nat)->List (Nat×Operand)->M (Bs t)
 | _,0,parts=>if parts.isEmpty then .ret ⟨[],none,[]⟩else .fail
 | j,left+1,parts=>(pL C j (j*t.sz) t parts).bind λp=>(xl C t (j+1) left p.2).bind λr=>.ret ⟨p.1.x::r.xs,th p.1.n r.n,p.1.ms++r.ms⟩
def KN(C:Ctx)(vs:List Nat)(X:TypeId)(d len:Nat)(parts:List (Nat×Operand)):M (List (Nat×V)):=
 match C.ty X with
 | some (.slice e t)=>(xl C t 0 len parts).bind λb =>
   if cq (b.ms.map (·.1))=true/\(b.ms.all λp => !vs.contains p.1)=true/\len*t.sz<=16777216/\t.sz≠0 then
    .ret (b.ms.map (λp=>(p.1,V.dead))++[(d,.d none (b.n.getD t.depth+1) (.slice e t) b.xs)])
   else .fail
 | _=>.fail
section
variable{P:Program}{C:Ctx}{w w' w0:World}{S S':Nat->Prop}{L L' L0:Nat->aj}{s N:Nat}{vs:List Nat}{T T':List V}{tm tm':Array Value}{a:Act}
def Step[af](P:Program)(o:Oper)(w0:World)(L0:Nat->aj)(N:Nat)(vs:List Nat)(T':List V)(a:Act)(w:World):Prop :=
 ∀(K:Act->World->Prop) (Q:Exit->Act->World->Prop),(∀a' w' L',Inv w0 L0 N vs T' a' w' L'->K a' w')->o.wp P a w K Q
theorem Step.value[af]{c:Value}(ho:o.dst=some d)(aN:(execOp a.eval o).run P w = .ok (.value c) w')(h:Inv w0 L0 N vs T' (a.put (some d) c) w' L'):Step P o w0 L0 N vs T' a w:=by
 intro K Q hK;unfold Oper.wp;rw[aN,Oper.upon_value,ho];exact hK _ _ _ h
theorem amh{o:Nat}{x:Operand}{b:Bd t}(h:(Kz C t o x).ai T b log):b.ms≠[]->t.depth≠0:=by
 obtain⟨v,l1,l2,rfl,h1,h2⟩:=M.an h;split at h2
 ·split at h2
  ·rename_i ht;subst ht;split at h2
   ·obtain⟨rfl,_⟩:=h2;intro h;exact absurd rfl h
   ·split at h2
    ·obtain⟨rfl,_⟩:=h2;intro h;exact absurd rfl h
    ·intro _;assumption
  ·exact h2.elim
 ·exact h2.elim
theorem Kf[af]{i o:Nat}{parts xg:List (Nat×Operand)}{b:Bd t}(h:(pL C i o t parts).ai T (b,xg) log):b.ms≠[]->t.depth≠0:=by
 unfold pL at h;split at h
 ·split at h
  ·obtain⟨b1,l1,l2,rfl,h1,h2⟩:=M.an h;obtain⟨h2,_⟩:=h2;cases h2;exact amh h1
  ·obtain⟨h,_⟩:=h;cases h;intro h;exact absurd rfl h
 ·obtain⟨h,_⟩:=h;cases h;intro h;exact absurd rfl h
theorem Yp[af]:{t:Ty}->{i o:Nat}->{parts:List (Nat×Operand)}->{b:Bd t}->{log:List Nat}->(ou C i o t parts).ai T b log->b.ms≠[]->t.depth≠0
 | .pair ta tb,i,o,parts,b,log,h=>by
  simp only[ou]at h;obtain⟨⟨b1,xh⟩,l1,l2,rfl,h1,h2⟩:=M.an h;obtain⟨r,l3,l4,rfl,h3,h4⟩:=M.an h2;obtain⟨rfl,_⟩:=h4;intro bn;simp only[Ty.depth];by_cases h:b1.ms=[]
  ·have:r.ms≠[]:=λe=>bn (by simp[h,e]);have:=Yp h3 this;omega
  ·have:=Kf h1 h;omega
 | .int _,i,o,parts,b,log,h | .bool,i,o,parts,b,log,h | .str,i,o,parts,b,log,h | .raw _,i,o,parts,b,log,h | .cap _ _,i,o,parts,b,log,h | .unit,i,o,parts,b,log,h | .agg _,i,o,parts,b,log,h | .slice _ _,i,o,parts,b,log,h=>by
  simp only[ou]at h;obtain⟨⟨b1,xh⟩,l1,l2,rfl,h1,h2⟩:=M.an h;simp only at h2;split at h2
  ·obtain⟨rfl,_⟩:=h2;exact Kf h1
  ·exact h2.elim
theorem anj{fs:Array Field}{g:Field->Nat}(h:∀f∈fs.toList,(sizeOf f.type).run P w = .ok (g f) w):
  (fs.mapM λf=>do pure (f.offset,<-sizeOf f.type):Sem (Array (Nat×Nat))).run P w = .ok (fs.map λf=>(f.offset,g f)) w:=by
 obtain⟨l⟩:=fs;rw[Array.mapM_eq_mapM_toList];have key:∀l:List Field,(∀f∈l,(sizeOf f.type).run P w = .ok (g f) w)->(l.mapM λf=>do pure (f.offset,<-sizeOf f.type):Sem (List (Nat×Nat))).run P w = .ok (l.map λf=>(f.offset,g f)) w:=by
  intro l;induction l with
  | nil=>intro _;simp
  | cons f l ih =>
   intro h;have h1:=h f (by simp);have h2:=ih (λf hf=>h f (by simp[hf]));simp only[List.mapM_cons,Sem.run_bind,h1,Result.andThen_ok,Sem.run_pure,h2,List.map_cons]
 have:=key l h;simp only[Sem.run_map,this,Result.andThen_ok];simp
theorem aip[af]{nl:Nat->aj}(hI:Inv w0 L0 N vs T a w L)(hid:(T.getD d .dead).idle=true){q':List Nat}
  (h:aS (gb d q o0 m ms) w L nl k = .own d q') (hk:k<w.heap.size):ms≠[]/\0<m:=by
 unfold aS at h;rw[if_pos hk]at h;obtain⟨s0,q0,e0,f0⟩:=eV h;unfold gb at f0;split at f0
 ·rename_i p hp;refine⟨λe=>(by rw[e]at hp;cases hp),?_⟩;split at f0
  ·split at f0
   ·split at f0
    ·omega
    ·cases f0
   ·cases f0
  ·cases f0
 ·split at f0
  ·cases f0
  ·rename_i h1 h2;injection f0 with f0 _;exact absurd f0 h2
theorem anO[af](hI:Inv w0 L0 N vs T a w L)(hC:bD P C){X:TypeId}{parts:Array (Nat×Operand)}(ho:o.op = .build X parts)(ay:o.dst=some d)
  (hd:d<N) (hid:(T.getD d .dead).idle=true) (h:(HQ C vs X d parts.toList).ai T ups log):Step P o w0 L0 N vs (ah T ups) a w:=by
 unfold HQ at h;split at h
 ·rename_i t hX;split at h
  ·rename_i cQ;split at h
   ·rename_i hpe;obtain⟨rfl,_⟩:=h;obtain⟨i,z,i1,i2,i3,i4,i5⟩:=(hC X _ hX).info;obtain⟨m,e,te,hu,he,_⟩:=((hC X _ hX).b7).resolve_left (λh=>by rw[cQ]at h;cases h.1) |>.2;have hz:z.cells=t.ct.toArray:=by rw[Form.agg i5];rfl
    have mg:parts.toList=[]:=by simpa using hpe
    have hs:=(hC _ _ he).run_sizeOf (w:=w);intro K Q hK;refine aK.inv hI hd hid ay (aK.still hI (v:=.d none t.depth (.agg t) t.zero) (c:=.agg t.ct.toArray) ?_ (λ_=>rfl) ⟨by simp,t.ct,by simp[Form],?_⟩) hK
    ·simp only[execOp,ho,Instr.build,Sem.run_bind,zeroValue,Go.run_typeInfo w i1,Result.andThen_ok,i4,Sem.run_pure,run_underlying hu,hs,hz,Array.toList_map,mg,List.map_nil,Instr.fill]
    ·simp only[Own];exact Own.zero
   ·exact h.elim
  rename_i cQ;have cQ:t.eJ=false:=by simpa using cQ
  obtain⟨b,l1,l2,rfl,h1,h2⟩:=M.an h;split at h2
  ·rename_i hc;obtain⟨hn,hv⟩:=hc;obtain⟨rfl,_⟩:=h2;obtain⟨i,z,i1,i2,i3,i4,i5⟩:=(hC X _ hX).info;obtain⟨⟨fs,hu,nz,iL⟩,_⟩:=(hC X _ hX).str cQ;have hz:z.cells=t.ct.toArray:=by rw[Form.agg i5];rfl
   let g:Field->Nat:=λf=>match C.ty f.type with|some t1=>t1.sz|none=>0
   have hg:∀f∈fs.toList,(sizeOf f.type).run P w = .ok (g f) w:=by
    intro f hf;obtain⟨j,hj⟩:=List.mem_iff_getElem?.1 hf;obtain⟨t1,_,h4,_⟩:=nz j f (by simpa using hj);have:=(hC _ _ h4).run_sizeOf (w:=w);simp[g,h4,this]
   have ajO:∀j r,bB j t=some r->(fs.map λf=>(f.offset,g f))[0+j]?=some (0+r.1,r.2.sz):=by
    intro j r hr;have ax:=iL j r hr;obtain⟨t1,h3,h4,_⟩:=nz j fs[j] (Array.getElem?_eq_getElem ax);rw[hr]at h3;injection h3 with h3;subst h3;simp[ax,g,h4]
   obtain⟨cu,vT⟩:=T5 hI h1 (place:=λi=>(fs.map λf=>(f.offset,g f))[i]?) (cells:=t.ct.toArray) ajO (by simp[Ty.jI,List.take_of_length_le]) (by simp[Ty.jI]);have aN:(execOp a.eval o).run P w = .ok (.value (.agg cu)) w:=by
    have hf:=vT.fill;simp only[Instr.fill]at hf;simp only[execOp,ho,Instr.build,Sem.run_bind,zeroValue,Go.run_typeInfo w i1,Result.andThen_ok,i4,Sem.run_pure,run_underlying hu,anj hg,hz,Array.toList_map,hf]
   have hlen:cu.size=t.sz:=by rw[vT.size];simp[Ty.jI]
   refine Step.value ay aN (Inv.U3 (q:=[]) (o0:=0) (m:=b.n.getD t.depth) (nl:=λ_=>.free) hI hd hid vT.qH hn vT.src ?_ (Wd.refl hI _) (λ_ _=>rfl) (λ_ _ _ _ h=>by cases h) (λ_ _ _ _ h=>by cases h) rfl ?_ ?_)
   ·intro s hs bc;obtain⟨p,hp,rfl⟩:=List.mem_map.1 hs;rw[List.all_eq_true]at hv;have:=hv p hp;simp[bc]at this
   ·intro k q' hk;by_cases ax:k<w.heap.size
    ·obtain⟨e1,e2⟩:=aip hI hid hk ax;have:=Yp h1 e1;simp only[V.aL,Ty.depth,Bool.and_eq_true,bne_iff_ne];exact⟨by omega,this⟩
    ·unfold aS at hk;rw[if_neg ax]at hk;cases hk
   ·intro T' tm';refine⟨by simp,cu.toList,by simp[Form],?_⟩;simp only[Own];have:=vT.own (aS (gb d [] 0 (b.n.getD t.depth) b.ms) w L (λ_=>.free)) w d [] 0 (b.n.getD t.depth) (λn hn=>by rw[hn];exact Nat.le_refl _)
     (λk hk=>ez hI hk) (λ_ _=>rfl) (U5 hI hn)
    simpa[List.take_of_length_le,hlen]using this
  ·exact h2.elim
 ·exact h.elim
structure aa6 (T:List V) (a:Act) (w:World) (L:Nat->aj) (place:Nat->Option (Nat×Nat)) (cells:Array Value) (du:List (Nat×Value)) (j:Nat) (t:Ty) (left:Nat) (b:Bs t) (cu:Array Value):Prop where
 fill:Instr.fill place cells du=some cu
 size:cu.size=cells.size
 out:∀i,(i<j*t.sz\/(j+left)*t.sz<=i)->cu[i]?=cells[i]?
 src:rK T (j*t.sz) ((j+left)*t.sz) b.n b.ms
 qH:eY (j*t.sz) b.ms
 len:b.xs.length=left
 dep:b.ms≠[]->t.depth≠0
 own:∀(L':Nat->aj) (w':World) d q o0 m,(∀n,b.n=some n->m<=n)->(∀k,L k = .aq->L' k = .aq)->(∀k,L k ≠ .free->w'.heap[k]?=w.heap[k]?)->lK L L' d q o0 m b.ms ->
  ∀i (h:i<b.xs.length),Own w' L' (SL L' none) d m t (b.xs[i]) q (o0+(j+i)*t.sz) ((cu.toList.drop ((j+i)*t.sz)).take t.sz)
theorem Y7[af](hI:Inv w0 L0 N vs T a w L){place:Nat->Option (Nat×Nat)}(hp:∀i,place i=some (i*t.sz,t.sz)):{left j:Nat}->{parts:List (Nat×Operand)}->{b:Bs t}->{log:List Nat}->{cells:Array Value} ->
  (xl C t j left parts).ai T b log->(∀i,j<=i->i<j+left->(cells.toList.drop (i*t.sz)).take t.sz=t.ct)->(j+left)*t.sz<=cells.size ->
  ∃cu,aa6 T a w L place cells (parts.map λp=>(p.1,a.eval p.2)) j t left b cu
 | 0,j,parts,b,log,cells,h,hz,hb=>by
  simp only[xl]at h;split at h
  ·rename_i he;obtain⟨rfl,_⟩:=h;have:parts=[]:=by simpa using he
   subst this;exact⟨cells,rfl,rfl,λ_ _=>rfl,λ_ _ _ h=>(by cases h),trivial,rfl,λh=>absurd rfl h,λ_ _ _ _ _ _ _ _ _ _ i h=>absurd h (by simp)⟩
  ·exact h.elim
 | left+1,j,parts,b,log,cells,h,hz,hb=>by
  simp only[xl]at h;obtain⟨⟨b1,xh⟩,l1,l2,rfl,h1,h2⟩:=M.an h;obtain⟨r,l3,l4,rfl,h3,h4⟩:=M.an h2;obtain⟨rfl,_⟩:=h4;have e1:(j+1)*t.sz=j*t.sz+t.sz:=by rw[Nat.add_mul,Nat.one_mul]
  have e2:j+1+left=j+(left+1):=by omega
  have e3:(j+1)*t.sz<=(j+(left+1))*t.sz:=Nat.mul_le_mul_right _ (by omega);obtain⟨c1,f1⟩:=Iv hI h1 (place:=place) (cells:=cells) (hp j) (hz j (Nat.le_refl _) (by omega)) (by omega);have fJ:∀i,j+1<=i->(c1.toList.drop (i*t.sz)).take t.sz=(cells.toList.drop (i*t.sz)).take t.sz:=λi hi =>
   tJ (λk hk1 gI=>f1.out k (.inr (by have:=Nat.mul_le_mul_right t.sz hi;omega)))
  obtain⟨c2,f2⟩:=Y7 hI hp (cells:=c1) h3 (λi vW dm=>by rw[fJ i vW];exact hz i (by omega) (by omega)) (by rw[f1.size,e2];exact hb);refine⟨c2,f1.fill.trans f2.fill,f2.size.trans f1.size,λi hi=>?_,?_,?_,by simp[f2.len],λbn=>?_,λL' w' d q o0 m k1 k2 k3 k4 i hi=>?_⟩
  ·rw[f2.out i (by rw[e2];omega),f1.out i (by omega)]
  ·intro s o' sz hm;rcases List.mem_append.1 hm with hm|hm
   ·exact (f1.src.mono (Nat.le_refl _) (by omega) (λk hk=>Ya hk)) s o' sz hm
   ·exact (f2.src.mono (by omega) (by rw[e2];exact Nat.le_refl _) (λk hk=>Yb hk)) s o' sz hm
  ·exact f1.qH.append (by omega) (λs o' sz hm=>(f1.src s o' sz hm).2.1) (by rw[<-e1];exact f2.qH)
  ·by_cases h:b1.ms=[]
   ·exact f2.dep (λe=>bn (by simp[h,e]))
   ·exact Kf h1 h
  ·cases i with
   | zero =>
    simp only[Nat.add_zero,List.getElem_cons_zero];rw[tJ (cur:=c1) (cur':=c2) (λk hk1 gI=>f2.out k (.inl (by omega)))];exact f1.own L' w' d q o0 m (λn hn=>X8 k1 hn) k2 k3 k4.left
   | succ i =>
    simp only[List.length_cons]at hi;have:=f2.own L' w' d q o0 m (λn hn=>X9 k1 hn) k2 k3 k4.right i (by omega);rw[show j+1+i=j+(i+1)by omega]at this;simpa using this
theorem an8[af](hI:Inv w0 L0 N vs T a w L)(hC:bD P C){o:Oper}{X:TypeId}{len:Nat}{parts:Array (Nat×Operand)}(ho:o.op = .buildSlice X len parts)(ay:o.dst=some d)
  (hd:d<N) (hid:(T.getD d .dead).idle=true) (h:(KN C vs X d len parts.toList).ai T ups log):Step P o w0 L0 N vs (ah T ups) a w:=by
 unfold KN at h;split at h
 ·rename_i e t hX;obtain⟨b,l1,l2,rfl,h1,h2⟩:=M.an h;split at h2
  ·rename_i hc;obtain⟨hn,hv,hsm,auC⟩:=hc;obtain⟨rfl,_⟩:=h2;obtain⟨hu,he⟩:=(hC X _ hX).b7;obtain⟨i,z,i1,i2,i3,i4,i5⟩:=(hC e t he).info;have dZ:∀v∈t.ct,v.oneCell'=true:=Own.one (Own.zero (w:=w) (L:=L) (S:=λ_=>True) (s:=0) (n:=0) (t:=t) (q:=[]) (o:=0));have jo:=Form.cells i5 dZ;have bp:z.cells.size=t.sz:=by rw[<-Array.length_toList,jo,Ty.jI]
   let cells:Array Value:=(Array.range (len*t.sz)).map (z.cells[· % z.cells.size]!);have IW:∀i,i<len->(cells.toList.drop (i*t.sz)).take t.sz=t.ct:=by
    intro i hi;have:=J6 z.cells len i hi;rw[bp]at this;rw[<-jo];show (((Array.range (len*t.sz)).map (z.cells[· % z.cells.size]!)).toList.drop (i*t.sz)).take t.sz=_;rw[bp];exact this
   have de:cells.size=len*t.sz:=by simp[cells]
   obtain⟨cu,hf⟩:=Y7 hI (place:=λi=>some (i*t.sz,t.sz)) (λ_=>rfl) (cells:=cells) h1 (λi _ hi=>IW i (by omega)) (by rw[de];simp);have aN:(execOp a.eval o).run P w = .ok (.value (.slice (some ⟨w.heap.size,0,none⟩) len len)) (w.alloc (.cells cu e)):=by
    by_cases hl:len=0
    ·subst hl;have B5:cells=#[]:=by simp[cells]
     have eu:cu=#[]:=by
      have:=hf.size;rw[de]at this;simpa using this
     have lX:=hf.fill;rw[B5,eu]at lX;rw[eu];simp only[execOp,ho,Instr.buildSlice,Sem.run_bind,run_underlying hu,Result.andThen_ok,(hC e t he).run_sizeOf,Nat.zero_mul];simp only[Array.toList_map];simp only[Array.range_zero',Array.map_empty,lX,sizeOf,Go.run_typeInfo w i1];simp[lX,newRow,newObj,Sem.run]
    ·have hb:=run_buildSlice (P:=P) w X e len (parts.map λ(i,x)=>(i,a.eval x)) cu i z hu i1 i4 (by rw[i2];omega) (by rw[i2];intro h;rcases Nat.mul_eq_zero.1 h with h|h<;>omega) (by
      rw[i2];have:=hf.fill;simpa[cells]using this)
     simp[execOp,ho,hb]
   refine Step.value ay aN (Inv.U3 (q:=[0]) (o0:=0) (m:=b.n.getD t.depth) (nl:=λk=>if k=w.heap.size then .own d [0]else .free) hI hd hid hf.qH hn hf.src ?_ ?_ ?_ ?_ ?_ rfl ?_ ?_)
   ·intro s hs bc;obtain⟨p,hp,rfl⟩:=List.mem_map.1 hs;rw[List.all_eq_true]at hv;have:=hv p hp;simp[bc]at this
   ·refine⟨rfl,rfl,rfl,by simp,Nat.le_refl _,λk hk _=>Go.RowKit.Below.heap_alloc w _ k hk,λk hk=>?_,λk s q hk h=>?_⟩
    ·simp at hk;rw[if_neg (by omega)]
    ·split at h
     ·injection h with h _;exact .inl h.symm
     ·cases h
   ·exact λk hk=>Go.RowKit.Below.heap_alloc w _ k hk
   ·intro k k' q' hk h h';split at h
    ·rename_i hkk;injection h with _ h;subst h;unfold aS at h';split at h'
     ·exfalso;obtain⟨s0,q0,e0,f0⟩:=eV h';rcases sn f0 with⟨_,_,_,_,_,_,_,h8⟩|⟨_,h7,h8,_⟩
      ·have:=congrArg List.length h8;simp at this
      ·exact h7 h8.symm
     ·dsimp only at h';split at h'
      ·omega
      ·cases h'
    ·cases h
   ·intro k s q' hk h;split at h
    ·injection h with h _;exact h.symm
    ·cases h
   ·intro k q' hk;simp[V.aL,Ty.depth]
   ·intro T' tm';refine⟨by simp,_,rfl,?_⟩;simp only[Own];have hL:aS (gb d [0] 0 (b.n.getD t.depth) b.ms) w L (λk=>if k=w.heap.size then .own d [0]else .free) w.heap.size = .own d [0]:=by
     unfold aS;rw[if_neg (by omega)];simp
    refine .inr ⟨w.heap.size,len,cu,by rw[hf.len],by simpa using hL,oM _ _,by rw[hf.len];exact Nat.le_refl _,?_,by rw[hf.size,de],λj hj=>?_⟩
    ·unfold maxLen;have:len<=len*t.sz:=Nat.le_mul_of_pos_right _ (by omega);omega
    ·have:=hf.own (aS (gb d [0] 0 (b.n.getD t.depth) b.ms) w L (λk=>if k=w.heap.size then .own d [0]else .free)) (w.alloc (.cells cu e)) d [0] 0 (b.n.getD t.depth) (λn hn=>by rw[hn];exact Nat.le_refl _)
      (λk hk=>ez hI hk) (λk hk=>Go.RowKit.Below.heap_alloc w _ k (hI.lt hk)) (U5 hI hn) j hj
     simpa using this
  ·exact h2.elim
 ·exact h.elim
end
abbrev Rec:=List Nat×List (Nat×V)
def Rec.wr(r:Rec):List Nat:=r.2.map (·.1)
def Rec.rd(r:Rec):List Nat:=r.1++r.wr
def dp(D:Nat->Bool):Nat->List Rec->List V->List V
 | _,[],T=>T
 | i,r::rs,T=>dp D (i+1) rs (if D i=true then ah T r.2 else T)
theorem iX[af](D:Nat->Bool):{i:Nat}->{rs:List Rec}->{T:List V}->(dp D i rs T).length=T.length
 | _,[],_=>rfl
 | i,r::rs,T=>by
  simp only[dp];rw[iX];split
  ·exact cF _ _
  ·rfl
theorem Zi[af]{T T':List V}{s:Nat}(hl:T.length=T'.length)(h:T.getD s .dead=T'.getD s .dead):(ah T ups).getD s .dead=(ah T' ups).getD s .dead:=by
 unfold ah;induction ups generalizing T T' with
 | nil=>exact h
 | cons u l ih =>
  simp only[List.foldl_cons];refine ih (by simp[hl]) ?_;rw[aH,aH,hl,h]
theorem xo[af]{D D':Nat->Bool}{s:Nat}:{i:Nat}->{rs:List Rec}->{T T':List V}->T.length=T'.length->T.getD s .dead=T'.getD s .dead ->
  (∀j r,rs[j]?=some r->s∈r.wr->D (i+j)=D' (i+j))->(dp D i rs T).getD s .dead=(dp D' i rs T').getD s .dead
 | _,[],_,_,_,h,_=>h
 | i,r::rs,T,T',hl,h,H=>by
  simp only[dp];refine xo ?_ ?_ (λj r' hj hs=>?_)
  ·split<;>split<;>simp[cF,hl]
  ·by_cases hs:s∈r.wr
   ·have:=H 0 r rfl hs;simp only[Nat.add_zero]at this;rw[this];split
    ·exact Zi hl h
    ·exact h
   ·have e1:=fa r.2 T s hs;have e2:=fa r.2 T' s hs;split<;>split<;>simp only[e1,e2,h]
  ·have:=H (j+1) r' (by simpa using hj) hs
   rwa [show i+1+j=i+(j+1)by omega]
theorem xp{D:Nat->Bool}:{i:Nat}->{rs:List Rec}->{T:List V}->(∀j,i<=j->D j=false)->dp D i rs T=T
 | _,[],_,_=>rfl
 | i,r::rs,T,h=>by
  simp only[dp];rw[h i (Nat.le_refl _),if_neg (by simp)];exact xp (λj hj=>h j (by omega))
theorem anK[af]{n:Nat}:{i:Nat}->{rs:List Rec}->{T:List V}->{r:Rec}->rs[n]?=some r ->
  dp (λj=>decide (j<i+n+1)) i rs T=ah (dp (λj=>decide (j<i+n)) i rs T) r.2:=by
 induction n with
 | zero =>
  intro i rs T r h;cases rs with
  | nil=>simp at h
  | cons r' rs =>
   simp only[List.getElem?_cons_zero,Option.some.injEq]at h;subst h;simp only[dp,Nat.add_zero];rw[if_pos (by simp),if_neg (by simp),xp (λj hj=>by simp;omega),xp (λj hj=>by simp;omega)]
 | succ n ih =>
  intro i rs T r h;cases rs with
  | nil=>simp at h
  | cons r' rs =>
   simp only[List.getElem?_cons_succ]at h;simp only[dp];have:=ih (i:=i+1) (T:=if decide (i<i+(n+1))=true then ah T r'.2 else T) h
   rw[show i+1+n=i+(n+1)by omega]at this;rw[if_pos (by simp;omega)];rw[if_pos (by simp)]at this;rw[if_pos (by simp)];exact this
theorem CE{T T':List V}(hl:T.length=T'.length)(h:∀s,T.getD s .dead=T'.getD s .dead):T=T':=by
 apply List.ext_getElem hl;intro i h1 h2;have:=h i;simpa[List.getD_eq_getElem?_getD,h1,h2]using this
theorem anu[af](hu:∀u∈ups,fC k u.1 u.2=true):∀{T:List V},(∀s,s<T.length->fC k s (T.getD s .dead)=true)->∀s,s<T.length->fC k s ((ah T ups).getD s .dead)=true:=by
 unfold ah;induction ups with
 | nil=>intro T h s hs;exact h s hs
 | cons u l ih =>
  intro T h s hs;simp only[List.foldl_cons];refine ih (λu' qc=>hu u' (by simp[qc])) (λs' bM=>?_) s (by simpa using hs);rw[aH];split
  ·rename_i he;rw[he.1];exact hu u (by simp)
  ·exact h s' (by simpa using bM)
theorem Zp[af]{D:Nat->Bool}:{i:Nat}->{rs:List Rec}->{T:List V}->(∀r∈rs,∀u∈r.2,fC k u.1 u.2=true)->(∀s,s<T.length->fC k s (T.getD s .dead)=true)->∀s,s<T.length->fC k s ((dp D i rs T).getD s .dead)=true
 | _,[],_,_,h=>h
 | i,r::rs,T,hr,h=>by
  simp only[dp];intro s hs;refine Zp (λr' aW=>hr r' (by simp[aW])) (λs' bM=>?_) s ?_
  ·split
   ·exact anu (hr r (by simp)) h s' (by split at bM<;>simpa[cF]using bM)
   ·exact h s' (by split at bM<;>simpa[cF]using bM)
  ·split
   ·rw[cF];exact hs
   ·exact hs
theorem anJ[af]{D:Nat->Bool}{i:Nat}{rs:List Rec}{T:List V}(hr:∀r∈rs,∀u∈r.2,fC k u.1 u.2=true)(h:ep k T=true):ep k (dp D i rs T)=true:=by
 unfold ep at h ⊢;rw[Bool.and_eq_true]at h ⊢;rw[iX];refine⟨Hv λs hs=>?_,h.2⟩;rw[Nat.zero_add];rw[iX]at hs;exact Zp hr (λs' bM=>by have:=vg h.1 s' bM;rwa [Nat.zero_add]at this) s hs
section
variable{ops:Array Oper}{md:Region.Mode}
theorem ahP{e:Edge}(h:Region.binds .any e=true):Region.binds md e=true:=by
 unfold Region.binds at *
 split<;>simp_all
def Ordered(ops:Array Oper):List Nat->List Nat->Prop
 | _,[]=>True
 | done,i::l=>i∉done/\i<ops.size/\(∀o,ops[i]?=some o->∀e∈o.after.toList,Region.binds .any e=true->e.on∈done)/\Ordered ops (i::done) l
theorem XY[af]:∀(fuel t:Nat) (listed:Array Bool) (done:List Nat),listed.size=ops.size->(∀i,i<ops.size->(listed.getD i false=true↔i∈done))->Ordered ops done (Region.linearise.go md ops fuel t listed []):=by
 intro fuel;induction fuel with
 | zero=>intro t listed done _ _;simp[Region.linearise.go,Ordered]
 | succ fuel ih =>
  intro t listed done bp h;simp only[Region.linearise.go];split
  ·rename_i i hi;rw[linearise_go_acc];simp only[List.reverse_cons,List.reverse_nil,List.nil_append,List.singleton_append];have hm:=List.mem_of_getElem? hi;simp only[List.mem_filter,List.mem_range,Bool.and_eq_true,Bool.not_eq_true']at hm;obtain⟨ax,hl,sA⟩:=hm;have dR:listed.getD i false=false:=by
    have Ja:i<listed.size:=by omega
    simp only[Array.getD_eq_getD_getElem?,Array.getElem?_eq_getElem Ja,Option.getD_some]at hl ⊢;exact hl
   refine⟨λhd=>?_,ax,λo ho e he hb=>?_,?_⟩
   ·rw[(h i ax).2 hd]at dR;cases dR
   ·rw[ho]at sA;simp only[Option.map_some,Option.getD_some,Array.all_eq_true_iff_forall_mem,Bool.or_eq_true,Bool.not_eq_true']at sA;have:=sA e (by simpa using he);rw[ahP hb]at this;simp only[Bool.true_eq_false,false_or]at this;have ag:e.on<ops.size:=by
     rcases Nat.lt_or_ge e.on ops.size with h|h
     ·exact h
     ·simp[Array.getD_eq_getD_getElem?,Array.getElem?_eq_none (show listed.size<=e.on by omega)]at this
    exact (h e.on ag).1 this
   ·refine ih _ _ _ (by simp[bp]) (λj hj=>?_);simp only[Array.getD_eq_getD_getElem?,Array.getElem?_setIfInBounds,List.mem_cons];by_cases cO:i=j
    ·subst cO;simp[bp,ax]
    ·have:=h j hj;simp only[Array.getD_eq_getD_getElem?]at this;simp[cO,this,Ne.symm cO]
  ·simp[Ordered]
theorem Yx:∀(n:Nat) (l:List Nat),l.Nodup->(∀x∈l,x<n)->l.length<=n
 | 0,l,_,h=>by
  cases l with
  | nil=>simp
  | cons x l=>exact absurd (h x (by simp)) (by omega)
 | n+1,l,hn,h=>by
  have h1:=Yx n (l.filter (· != n)) (hn.filter _) (λx hx=>by
   simp only[List.mem_filter,bne_iff_ne]at hx;have:=h x hx.1;omega)
  by_cases hm:n∈l
  ·have:l.length<=(l.filter (· != n)).length+1:=by
    clear h h1;induction l with
    | nil=>simp
    | cons x l ih =>
     rw[List.nodup_cons]at hn;by_cases hx:x=n
     ·subst hx;have:l.filter (· != x)=l:=by
       rw[List.filter_eq_self];intro y hy;simp only[bne_iff_ne]
       rintro rfl
       exact hn.1 hy
      simp[this]
     ·rw[List.filter_cons_of_pos (by simpa using hx)];have:=ih hn.2 (by rcases List.mem_cons.1 hm with h|h;exact absurd h.symm hx;exact h);simp only[List.length_cons];omega
   omega
  ·have:l.filter (· != n)=l:=by
    rw[List.filter_eq_self];intro y hy;simp only[bne_iff_ne]
    rintro rfl
    exact hm hy
   rw[this]at h1;omega
theorem al6[af](hb:∀(i:Nat) (o:Oper),ops[i]?=some o->∀e∈o.after.toList,Region.binds md e=true->e.on<i):∀(fuel t:Nat) (listed:Array Bool) (done:List Nat),listed.size=ops.size->(∀i,i<ops.size->(listed.getD i false=true↔i∈done)) ->
  ops.size<=done.length+fuel->done.Nodup->(∀i∈done,i<ops.size)->∀i,i<ops.size->i∈done\/i∈Region.linearise.go md ops fuel t listed []:=by
 intro fuel;induction fuel with
 | zero =>
  intro t listed done bp h hle cE gd i hi;left;apply Classical.byContradiction;intro p4;have h1:(i::done).Nodup:=List.nodup_cons.2 ⟨p4,cE⟩;have:=Yx ops.size (i::done) h1 (λj hj=>by
   rcases List.mem_cons.1 hj with rfl|hj
   ·exact hi
   ·exact gd j hj)
  simp at this;omega
 | succ fuel ih =>
  intro t listed done bp h hle cE gd i hi;simp only[Region.linearise.go];split
  ·rename_i j hj;rw[linearise_go_acc];simp only[List.reverse_cons,List.reverse_nil,List.nil_append,List.singleton_append,List.mem_cons];have hm:=List.mem_of_getElem? hj;simp only[List.mem_filter,List.mem_range,Bool.and_eq_true,Bool.not_eq_true']at hm;obtain⟨ax,hl,sA⟩:=hm;have kX:j∉done:=λhd=>by
    have:=(h j ax).2 hd;have Ja:j<listed.size:=by omega
    simp only[Array.getD_eq_getD_getElem?,Array.getElem?_eq_getElem Ja,Option.getD_some]at hl this;rw[this]at hl;cases hl
   rcases ih (t / _) (listed.setIfInBounds j true) (j::done) (by simp[bp]) (λk hk=>by
    simp only[Array.getD_eq_getD_getElem?,Array.getElem?_setIfInBounds,List.mem_cons];by_cases cO:j=k
    ·subst cO;simp[bp,ax]
    ·have:=h k hk;simp only[Array.getD_eq_getD_getElem?]at this;simp[cO,this,Ne.symm cO]) (by simp only[List.length_cons];omega) (List.nodup_cons.2 ⟨kX,cE⟩) (λk hk=>by
     rcases List.mem_cons.1 hk with rfl|hk
     ·exact ax
     ·exact gd k hk) i hi with h'|h'
   ·rcases List.mem_cons.1 h' with rfl|h'
    ·exact .inr (.inl rfl)
    ·exact .inl h'
   ·exact .inr (.inr h')
  ·rename_i cA;left;apply Classical.byContradiction;intro p4;have hex:∃k,k<ops.size/\k∉done/\∀k',k'<k->k'∈done:=by
    have key:∀n,(∃k,k<n/\k∉done/\k<ops.size)->∃k,k<ops.size/\k∉done/\∀k',k'<k->k'∈done:=by
     intro n;induction n with
     | zero=>rintro⟨k,hk,_⟩;omega
     | succ n ihn =>
      rintro⟨k,hk,wa,kd⟩
      by_cases dQ:∀k',k'<k->k'∈done
      ·exact⟨k,kd,wa,dQ⟩
      ·obtain⟨k',aI⟩:=Classical.not_forall.1 dQ;obtain⟨h1,h2⟩:=Classical.not_imp.1 aI;exact ihn ⟨k',by omega,h2,by omega⟩
    exact key (i+1) ⟨i,by omega,p4,hi⟩
   obtain⟨k,kd,wa,dQ⟩:=hex;have ajV:k∈(List.range ops.size).filter λi => !listed.getD i true&&((ops[i]?).map (·.after.all λe => !Region.binds md e||listed.getD e.on false)).getD false:=by
    simp only[List.mem_filter,List.mem_range,Bool.and_eq_true,Bool.not_eq_true'];refine⟨kd,?_,?_⟩
    ·have aI:k<listed.size:=by omega
     have h3:¬(listed.getD k false=true):=λe=>wa ((h k kd).1 e);simp only[Array.getD_eq_getD_getElem?,Array.getElem?_eq_getElem aI,Option.getD_some]at h3 ⊢;simpa using h3
    ·rw[Array.getElem?_eq_getElem kd];simp only[Option.map_some,Option.getD_some,Array.all_eq_true_iff_forall_mem,Bool.or_eq_true];intro e he;cases sC:Region.binds md e with
     | false=>exact .inl rfl
     | true =>
      have ax:=hb k _ (Array.getElem?_eq_getElem kd) e (by simpa using he) sC;exact .inr ((h e.on (by omega)).2 (dQ _ ax))
   have hlen:0<((List.range ops.size).filter λi => !listed.getD i true&&((ops[i]?).map (·.after.all λe => !Region.binds md e||listed.getD e.on false)).getD false).length:=List.length_pos_of_mem ajV;have:=List.getElem?_eq_none_iff.1 cA;have h4:=Nat.mod_lt t hlen;omega
theorem ann[af]{mixed:Bool}{t:Nat}:Ordered ops [] (Region.schedule mixed ops t):=by
 unfold Region.schedule;split
 ·exact XY _ _ _ _ (by simp) (λi hi=>by simp[Array.getD_eq_getD_getElem?,hi])
 ·exact XY _ _ _ _ (by simp) (λi hi=>by simp[Array.getD_eq_getD_getElem?,hi])
theorem anm[af](hb:∀(i:Nat) (o:Oper),ops[i]?=some o->∀e∈o.after.toList,Region.binds .any e=true->e.on<i){t:Nat}:∀i,i<ops.size->i∈Region.schedule true ops t:=by
 intro i hi;unfold Region.schedule;rw[if_pos (by simp)];exact (al6 hb _ _ _ [] (by simp) (λi hi=>by simp[Array.getD_eq_getD_getElem?,hi]) (by simp) (by simp) (by simp) i hi).resolve_left (by simp)
def fZ:List Oper->List Nat->List Nat
 | [],acc=>acc
 | o::l,acc=>fZ l (acc++[o.after.foldl (λs e=>if Region.binds .any e=true then s ||| 2 ^ e.on ||| acc.getD e.on 0 else s) 0])
def Closed(ops:Array Oper)(D:Nat->Prop):Prop:=∀i,D i->∀o,ops[i]?=some o->∀e∈o.after.toList,Region.binds .any e=true->D e.on
theorem UM{acc:List Nat}:{es:List Edge}->{s0:Nat}->(es.foldl (λs e=>if Region.binds .any e=true then s ||| 2 ^ e.on ||| acc.getD e.on 0 else s) s0).testBit k=true ->
  s0.testBit k=true\/∃e∈es,Region.binds .any e=true/\(e.on=k\/(acc.getD e.on 0).testBit k=true)
 | [],_,h=>.inl h
 | e::es,s0,h=>by
  simp only[List.foldl_cons]at h;rcases UM h with h|⟨e',he',h1,h2⟩
  ·split at h
   ·rename_i hb;simp only[Nat.testBit_or,Bool.or_eq_true]at h;rcases h with (h|h)|h
    ·exact .inl h
    ·refine .inr ⟨e,by simp,hb,.inl ?_⟩;rw[Nat.testBit_two_pow]at h;simpa using h
    ·exact .inr ⟨e,by simp,hb,.inr h⟩
   ·exact .inl h
  ·exact .inr ⟨e',by simp[he'],h1,h2⟩
theorem YT[af]{D:Nat->Prop}(hD:Closed ops D):{l:List Oper}->{acc:List Nat}->(∀j o,l[j]?=some o->ops[acc.length+j]?=some o) ->
  (∀j k,D j->(acc.getD j 0).testBit k=true->D k)->∀j k,D j->((fZ l acc).getD j 0).testBit k=true->D k
 | [],acc,_,h=>h
 | o::l,acc,ho,h=>by
  simp only[fZ];refine YT hD (λj o' hj=>?_) (λj k hj hk=>?_)
  ·have:=ho (j+1) o' (by simpa using hj);rw[show acc.length+(j+1)=(acc++[o.after.foldl (λs e=>if Region.binds .any e=true then s ||| 2 ^ e.on ||| acc.getD e.on 0 else s) 0]).length+j by simp;omega]at this
   exact this
  ·rw[List.getD_eq_getElem?_getD]at hk;by_cases ax:j<acc.length
   ·rw[List.getElem?_append_left ax]at hk;exact h j k hj (by rw[List.getD_eq_getElem?_getD];exact hk)
   ·by_cases he:j=acc.length
    ·subst he;rw[List.getElem?_append_right (Nat.le_refl _)]at hk;simp only[Nat.sub_self,List.getElem?_cons_zero,Option.getD_some]at hk;rw[<-Array.foldl_toList]at hk;rcases UM hk with hk|⟨e,he,hb,hk⟩
     ·simp at hk
     ·have h0:=ho 0 o rfl;have ag:=hD _ hj o h0 e he hb;rcases hk with rfl|hk
      ·exact ag
      ·exact h _ _ ag hk
    ·rw[List.getElem?_eq_none (by simp;omega)]at hk;simp at hk
end
def LC(P:Program)(ops:Array Oper)(J:List V->Act->World->Prop)(Q:Exit->Act->World->Prop)(o:Oper)(T T':List V):Prop :=
 ∀(a:Act) (w:World),J T a w->∀K:Act->World->Prop,(∀a' w',J T' a' w'->K a' w') ->
  if Region.wanted o (yielded ops a.tmps)=true then o.wp P a w K Q else K (a.put o.dst undef) w
def TE(ops:Array Oper)(recs:List Rec):Prop :=
 ∀i j ri rj,i<j->recs[i]?=some ri->recs[j]?=some rj->(∃s,s<bo/\((s∈ri.wr/\s∈rj.rd)\/(s∈rj.wr/\s∈ri.rd))) ->
  ((fZ ops.toList []).getD j 0).testBit i=true
section
variable{P:Program}{ops:Array Oper}{J:List V->Act->World->Prop}{Q:Exit->Act->World->Prop}{N:Nat}{recs:List Rec}{T0:List V}
theorem Z1{i:Nat}{l:List Nat}{a:Act}{w:World}(ho:ops[i]?=some o)
  (h:if Region.wanted o (yielded ops a.tmps)=true then o.wp P a w (wpOps P ops Q l) Q else wpOps P ops Q l (a.put o.dst undef) w):wpOps P ops Q (i::l) a w:=by
 simp only[wpOps,ho];split
 ·rename_i hw;rw[if_pos hw]at h;exact .inl h
 ·rename_i hw;rw[if_neg hw]at h;exact h
theorem X6{r:Rec}{s:Nat}(h:s∈r.wr):s∈r.rd:=List.mem_append_right _ h
theorem Y1[af](pQ:T0.length=N)(hN:N<=bo)(hn:recs.length=ops.size)(B4:∀r∈recs,∀s∈r.1,bo<=s->ep s T0=true/\∀r'∈recs,∀u∈r'.2,fC s u.1 u.2=true)
  (VZ:∀i o r,ops[i]?=some o->recs[i]?=some r->∀T,T.length=N->(∀s∈r.rd,s<bo->T.getD s .dead=(dp (λj=>decide (j<i)) 0 recs T0).getD s .dead)->(∀s∈r.1,bo<=s->ep s T=true)->LC P ops J Q o T (ah T r.2))
  (hc:TE ops recs) (hQ:∀a' w',J (dp (λ_=>true) 0 recs T0) a' w'->Q .normal a' w') :
  ∀(l done:List Nat),Ordered ops done l->Closed ops (· ∈ done)->(∀i,i<ops.size->i∈done\/i∈l)->∀a w,J (dp (λj=>done.contains j) 0 recs T0) a w->wpOps P ops Q l a w
 | [],done,_,_,dQ,a,w,hJ=>by
  simp only[wpOps];apply hQ;have:dp (λ_=>true) 0 recs T0=dp (λj=>done.contains j) 0 recs T0:=by
   refine CE (by rw[iX,iX]) (λs=>xo rfl rfl (λj r hj _=>?_));have ax:j<ops.size:=by
    rw[<-hn];exact (List.getElem?_eq_some_iff.1 hj).1
   have:=(dQ j ax).resolve_right (by simp);simp[this]
  rw[this];exact hJ
 | i::l,done,⟨hid,ax,sA,Jd⟩,VB,dQ,a,w,hJ=>by
  obtain⟨r,hr⟩:∃r,recs[i]?=some r:=⟨_,List.getElem?_eq_getElem (by rw[hn];exact ax)⟩;have ho:ops[i]?=some ops[i]:=Array.getElem?_eq_getElem ax;refine Z1 ho ?_;have auw:∀k,((fZ ops.toList []).getD i 0).testBit k=true->k∈i::done->True:=λ_ _ _=>trivial;have VC:Closed ops (· ∈ i::done):=by
   intro j hj o' me e he hb;rcases List.mem_cons.1 hj with rfl|hj
   ·exact List.mem_cons_of_mem _ (sA o' me e he hb)
   ·exact List.mem_cons_of_mem _ (VB j hj o' me e he hb)
  have Wh:∀{D:Nat->Prop},Closed ops D->∀j k,D j->((fZ ops.toList []).getD j 0).testBit k=true->D k:=λhD j k hj hk =>
   YT hD (l:=ops.toList) (acc:=[]) (λj o hj=>by simpa using hj) (λj k _ h=>by simp at h) j k hj hk
  have VQ:∀j rj s,recs[j]?=some rj->j≠i->s<bo->(s∈rj.wr/\s∈r.rd)->(done.contains j=decide (j<i)):=by
   intro j rj s hj cO kh hs;rcases Nat.lt_or_gt_of_ne cO with h|h
   ·have:=hc j i rj r h hj hr ⟨s,kh,.inl hs⟩;have:=Wh VC i j (by simp) this;have kX:j∈done:=by
     rcases List.mem_cons.1 this with rfl|h
     ·exact absurd rfl cO
     ·exact h
    simp[kX,h]
   ·have hp:=hc i j r rj h hr hj ⟨s,kh,.inr hs⟩;have kX:j∉done:=λkX=>hid (Wh VB j i kX hp);simp[kX];omega
  have Vr:∀s∈r.rd,s<bo->(dp (λj=>done.contains j) 0 recs T0).getD s .dead=(dp (λj=>decide (j<i)) 0 recs T0).getD s .dead:=by
   intro s hs kh;refine xo rfl rfl (λj rj hj hw=>?_);simp only[Nat.zero_add];by_cases cO:j=i
   ·subst cO;simp[hid]
   ·exact VQ j rj s hj cO kh ⟨hw,hs⟩
  have aiH:=VZ i _ r ho hr _ (by rw[iX,pQ]) Vr (λs hs hk=>by
   obtain⟨h1,h2⟩:=B4 r (List.mem_of_getElem? hr) s hs hk;exact anJ h2 h1) a w hJ
  refine aiH _ (λa' w' eG=>Y1 pQ hN hn B4 VZ hc hQ l (i::done) Jd VC (λk hk=>?_) a' w' ?_)
  ·rcases dQ k hk with h|h
   ·exact .inl (by simp[h])
   ·rcases List.mem_cons.1 h with rfl|h
    ·exact .inl (by simp)
    ·exact .inr h
  ·have:dp (λj=>(i::done).contains j) 0 recs T0=ah (dp (λj=>done.contains j) 0 recs T0) r.2:=by
    refine CE (by rw[iX,cF,iX]) (λs=>?_);by_cases kh:s<bo
    case neg=>rw[eF (by rw[iX,pQ];omega),eF (by rw[cF,iX,pQ];omega)]
    by_cases hs:s∈r.wr
    ·have h1:(ah (dp (λj=>done.contains j) 0 recs T0) r.2).getD s .dead=(ah (dp (λj=>decide (j<i)) 0 recs T0) r.2).getD s .dead :=
      Zi (by rw[iX,iX]) (Vr s (X6 hs) kh)
     have h2:=anK (i:=0) (T:=T0) hr;simp only[Nat.zero_add]at h2;rw[h1,<-h2];refine xo rfl rfl (λj rj hj hw=>?_);simp only[Nat.zero_add];by_cases cO:j=i
     ·subst cO;simp
     ·have h3:=VQ j rj s hj cO kh ⟨hw,X6 hs⟩;simp only[List.contains_cons,h3];have:(j==i)=false:=by simpa using cO
      rw[this,Bool.false_or];simp;omega
    ·rw[fa _ _ _ hs];refine xo rfl rfl (λj rj hj hw=>?_);simp only[Nat.zero_add];have cO:j≠i:=by
      rintro rfl
      rw[hr]at hj;injection hj with hj;subst hj;exact hs hw
     simp[cO]
   rw[this];exact eG
def mask:List Nat->Nat
 | []=>0
 | s::l=>cond (Nat.blt s bo) (2 ^ s ||| mask l) (mask l)
theorem CI{l:List Nat}{s:Nat}(h:s∈l)(hk:s<bo):(mask l).testBit s=true:=by
 induction l with
 | nil=>cases h
 | cons x l ih =>
  simp only[mask];cases hx:Nat.blt x bo with
  | true =>
   simp only[cond_true,Nat.testBit_or,Bool.or_eq_true];rcases List.mem_cons.1 h with rfl|h
   ·left;simp[Nat.testBit_two_pow]
   ·exact .inr (ih h)
  | false =>
   rcases List.mem_cons.1 h with rfl|h
   ·have:Nat.blt s bo=true:=by rw[Nat.blt_eq];exact hk
    rw[hx]at this;cases this
   ·exact ih h
def Di(pj rj wj:Nat):Nat->List (Nat×Nat)->Bool
 | _,[]=>true
 | i,(ri,wi)::l=>((wi &&& rj==0&&wj &&& ri==0)||pj.testBit i)&&Di pj rj wj (i+1) l
def lC:List Nat->List (Nat×Nat)->List (Nat×Nat)->Bool
 | pj::ps,done,(rj,wj)::l=>Di pj rj wj 0 done&&lC ps (done++[(rj,wj)]) l
 | _,_,_=>true
theorem ZG{pj rj wj:Nat}:{i:Nat}->{l:List (Nat×Nat)}->Di pj rj wj i l=true->∀k ri wi,l[k]?=some (ri,wi)->(wi &&& rj=0/\wj &&& ri=0)\/pj.testBit (i+k)=true
 | _,[],_,k,ri,wi,hk=>by simp at hk
 | i,(r,w)::l,h,k,ri,wi,hk=>by
  simp only[Di,Bool.and_eq_true,Bool.or_eq_true,beq_iff_eq]at h;cases k with
  | zero =>
   simp only[List.getElem?_cons_zero,Option.some.injEq,Prod.mk.injEq]at hk;obtain⟨rfl,rfl⟩:=hk;exact h.1
  | succ k =>
   have:=ZG h.2 k ri wi (by simpa using hk)
   rwa [show i+1+k=i+(k+1)by omega]at this
theorem ZH[af]:{ps:List Nat}->{done l:List (Nat×Nat)}->lC ps done l=true->ps.length=l.length->∀k pj rj wj,ps[k]?=some pj->l[k]?=some (rj,wj) ->
  ∀i ri wi,i<done.length+k->(done++l)[i]?=some (ri,wi)->(wi &&& rj=0/\wj &&& ri=0)\/pj.testBit i=true
 | [],_,_,_,_,_,_,_,_,hk,_,_,_,_,_,_=>by simp at hk
 | p::ps,done,[],_,hl,_,_,_,_,_,_,_,_,_,_,_=>by simp at hl
 | p::ps,done,(r,w)::l,h,hl,k,pj,rj,wj,hk,hj,i,ri,wi,hi,vZ=>by
  simp only[lC,Bool.and_eq_true]at h;cases k with
  | zero =>
   simp only[List.getElem?_cons_zero,Option.some.injEq,Prod.mk.injEq]at hk hj;subst hk;obtain⟨rfl,rfl⟩:=hj;rw[List.getElem?_append_left (by simpa using hi)]at vZ;have:=ZG h.1 i ri wi vZ;simpa using this
  | succ k =>
   refine ZH h.2 (by simpa using hl) k pj rj wj (by simpa using hk) (by simpa using hj) i ri wi (by simp;omega) ?_;simpa using vZ
theorem KC:{l:List Oper}->{acc:List Nat}->(fZ l acc).length=acc.length+l.length
 | [],_=>rfl
 | o::l,acc=>by simp only[fZ,KC,List.length_append,List.length_cons,List.length_nil];omega
theorem aon[af]{recs:List Rec}(hn:recs.length=ops.size)(h:lC (fZ ops.toList []) [] (recs.map λr=>(mask r.rd,mask r.wr))=true):TE ops recs:=by
 intro i j ri rj nB hi hj hs;have ax:j<ops.size:=by rw[<-hn];exact (List.getElem?_eq_some_iff.1 hj).1
 have hp:(fZ ops.toList [])[j]?=some ((fZ ops.toList []).getD j 0):=by
  rw[List.getD_eq_getElem?_getD,List.getElem?_eq_getElem (by rw[KC];simpa using ax)];rfl
 have:=ZH h (by rw[KC];simp[hn]) j _ (mask rj.rd) (mask rj.wr) hp (by simp[hj]) i (mask ri.rd) (mask ri.wr) (by simpa using nB) (by simp[hi]);rcases this with⟨h1,h2⟩|h
 ·exfalso;obtain⟨s,kh,⟨ha,hb⟩|⟨ha,hb⟩⟩:=hs
  ·have:(mask ri.wr &&& mask rj.rd).testBit s=true:=by rw[Nat.testBit_and,CI ha kh,CI hb kh];rfl
   rw[h1]at this;simp at this
  ·have:(mask rj.wr &&& mask ri.rd).testBit s=true:=by rw[Nat.testBit_and,CI ha kh,CI hb kh];rfl
   rw[h2]at this;simp at this
 ·exact h
def kR:Nat->List Oper->Bool
 | _,[]=>true
 | i,o::l=>o.after.all (λe => !Region.binds .any e||decide (e.on<i))&&kR (i+1) l
theorem TU:{i:Nat}->{l:List Oper}->kR i l=true->∀(k:Nat) (o:Oper),l[k]?=some o->∀e∈o.after.toList,Region.binds .any e=true->e.on<i+k
 | _,[],_,k,o,hk,_,_,_=>by simp at hk
 | i,x::l,h,k,o,hk,e,he,sC=>by
  simp only[kR,Bool.and_eq_true]at h;cases k with
  | zero =>
   simp only[List.getElem?_cons_zero,Option.some.injEq]at hk;subst hk;have:=Array.all_eq_true_iff_forall_mem.1 h.1 e (by simpa using he);rw[sC]at this;simpa using this
  | succ k =>
   have:=TU h.2 k o (by simpa using hk) e he sC;omega
theorem ahM[af](h:kR 0 ops.toList=true):∀(i:Nat) (o:Oper),ops[i]?=some o->∀e∈o.after.toList,Region.binds .any e=true->e.on<i:=λi o ho e he sC=>by
 have:=TU h i o (by simpa using ho) e he sC;simpa using this
def nc(T0:List V)(recs:List Rec):Bool:=recs.all λr=>r.1.all λs=>cond (Nat.blt s bo) true (ep s T0&&recs.all λr'=>r'.2.all λu=>fC s u.1 u.2)
theorem ahJ{T0:List V}{recs:List Rec}(h:nc T0 recs=true):∀r∈recs,∀s∈r.1,bo<=s->ep s T0=true/\∀r'∈recs,∀u∈r'.2,fC s u.1 u.2=true:=by
 intro r hr s hs hk;unfold nc at h;rw[List.all_eq_true]at h;have h1:=h r hr;rw[List.all_eq_true]at h1;have h2:=h1 s hs;have hb:Nat.blt s bo=false:=by
  rw[Bool.eq_false_iff];intro hb;rw[Nat.blt_eq]at hb;exact Nat.not_lt.2 hk hb
 rw[hb,cond_false,Bool.and_eq_true,List.all_eq_true]at h2;refine⟨h2.1,λr' aW u hu=>?_⟩;have h3:=h2.2 r' aW;rw[List.all_eq_true]at h3;exact h3 u hu
end
inductive Ex where
 | bJ
 | ext (id:Nat)
 | ret
def fg(ks:Nat):Nat->List V->List V
 | _,[]=>[]
 | i,v::l=>(cond (ks.testBit i) v .dead)::fg ks (i+1) l
def qo(ks:Nat)(T:List V):Nat->List V->Bool
 | _,[]=>true
 | i,v::l=>(!ks.testBit i||(match v.root with
  | none=>true
  | some r=>ks.testBit r || !(T.getD r .dead).aL))&&qo ks T (i+1) l
def fI(k:Nat):V->V
 | .d l n t x=>.d l (min k n) t x
 | .box l n t x=>.box l (min k n) t x
 | v=>v
def V.qi:V->Bool
 | .d .. =>true
 | .box .. =>true
 | _=>false
def V.lvl:V->Nat
 | .d _ n _ _=>n
 | .box _ n _ _=>n
 | _=>0
def tl(r:Nat):List V->Bool
 | []=>true
 | v::l => !v.on r&&tl r l
def qh(m:Nat)(T:List V):Nat->List V->Bool
 | _,[]=>true
 | i,v::l=>(!(m.testBit (1000+i)||m.testBit (2000+i))||(v.qi&&tl i T))&&qh m T (i+1) l
def mo(m:Nat):Nat->List V->List V
 | _,[]=>[]
 | i,v::l=>(cond (m.testBit (1000+i)) (fI 0 v) (cond (m.testBit (2000+i)) (fI 1 v) v))::mo m (i+1) l
def fz{R:Type}(ks:Option Nat)(T:List V)(K:List V->Option R):Option R :=
 match ks with
 | none=>K T
 | some m=>cond (qo m T 0 T) (cond (decide (m<2 ^ 1000)) (K (fg m 0 T)) (cond (qh m (fg m 0 T) 0 (fg m 0 T)) (K (mo m 0 (fg m 0 T))) none)) none
structure Env where
 step:Oper->M (List (Nat×V))
 N:Nat
 pins:Nat->Bool
 aR:Nat->Option Nat
def qz(E:Env)(o:Oper):Bool:=match o.dst with
 | some d => !E.pins d
 | none=>true
def ly(E:Env)(o:Oper)(T:List V):Option (List Nat×List (Nat×V)):=match o.dst with
 | none=>some ([],[])
 | some d=>cond ((T.getD d .dead).idle&&decide (d<E.N)) (some ([d],[(d,.bF [])])) none
def eL{R:Type}(E:Env)(ops:Array Oper)(draw:Bool)(K:List V->Option R)(T0:List V):List Oper->List V->List Rec->Option R
 | [],T,recs=>cond (!draw||(kR 0 ops.toList&&lC (fZ ops.toList []) [] (recs.map λr=>(mask r.rd,mask r.wr))&&nc T0 recs&&decide (E.N<=bo))) (K T) none
 | o::l,T,recs=>cond (qz E o) (match o.guard with
  | none=>(E.step o).runK T [] λlog ups=>eL E ops draw K T0 l (ah T ups) (recs++[(log,ups)])
  | some (j,want)=>match (ops[j]?).bind (·.dst)with
   | none=>none
   | some g=>match T.getD g .dead with
    | .d l0 n0 .bool b=>cond b
      (cond want
       ((E.step o).runK (T.set g (.d l0 n0 .bool true)) [g] λlog ups=>eL E ops draw K T0 l (ah (T.set g (.d l0 n0 .bool true)) ups) (recs++[(log,ups)]))
       ((ly E o (T.set g (.d l0 n0 .bool true))).bind λu=>eL E ops draw K T0 l (ah (T.set g (.d l0 n0 .bool true)) u.2) (recs++[(g::u.1,u.2)])))
      (cond want
       ((ly E o (T.set g (.d l0 n0 .bool false))).bind λu=>eL E ops draw K T0 l (ah (T.set g (.d l0 n0 .bool false)) u.2) (recs++[(g::u.1,u.2)]))
       ((E.step o).runK (T.set g (.d l0 n0 .bool false)) [g] λlog ups=>eL E ops draw K T0 l (ah (T.set g (.d l0 n0 .bool false)) ups) (recs++[(log,ups)])))
    | .bF []=>(ly E o T).bind λu=>eL E ops draw K T0 l (ah T u.2) (recs++[(g::u.1,u.2)])
    | _=>none) none
def iQ{α R:Type}(B:(α->Option R)->α->Option R):Nat->α->Option R
 | 0,_=>none
 | n+1,x=>B (iQ B n) x
noncomputable def gF{α R:Type}(B:(α->Option R)->α->Option R)(x:α):Option R :=
 open Classical in if h:∃n r,iQ B n x=some r then some (Classical.choose (Classical.choose_spec h))else none
def r3{α R:Type}(B:(α->Option R)->α->Option R):Prop :=
 ∀f x r,B f x=some r->(∀g,B g x=some r)\/∃y,f y=some r/\∀g,g y=some r->B g x=some r
theorem WE{B:(α->Option R)->α->Option R}(hB:r3 B):∀n x r,iQ B n x=some r->iQ B (n+1) x=some r
 | 0,x,r,h=>by cases h
 | n+1,x,r,h=>by
  simp only[iQ]at h;rcases hB _ _ _ h with h|⟨y,hy,h⟩
  ·exact h _
  ·exact h _ (WE hB n y r hy)
theorem WD[af]{B:(α->Option R)->α->Option R}(hB:r3 B){n:Nat}(h:n<=m){x:α}(hr:iQ B n x=some r):iQ B m x=some r:=by
 induction h with
 | refl=>exact hr
 | step _ ih=>exact WE hB _ _ _ ih
theorem oC[af]{B:(α->Option R)->α->Option R}(hB:r3 B){x:α}:gF B x=some r↔∃n,iQ B n x=some r:=by
 unfold gF;constructor
 ·intro h;split at h
  ·rename_i hh;injection h with h;have:=Classical.choose_spec (Classical.choose_spec hh);rw[h]at this;exact⟨_,this⟩
  ·cases h
 ·rintro⟨n,hn⟩
  have hh:∃n r,iQ B n x=some r:=⟨n,r,hn⟩;rw[dif_pos hh];have h1:=Classical.choose_spec (Classical.choose_spec hh);have h2:=WD hB (Nat.le_max_left _ n) h1;have h3:=WD hB (Nat.le_max_right (Classical.choose hh) n) hn;rw[h2]at h3;exact h3
theorem ah9[af]{B:(α->Option R)->α->Option R}(hB:r3 B)(x:α):gF B x=B (gF B) x:=by
 have key:∀r,gF B x=some r↔B (gF B) x=some r:=by
  intro r;constructor
  ·intro h;obtain⟨n,hn⟩:=(oC hB).1 h;cases n with
   | zero=>cases hn
   | succ n =>
    rcases hB _ _ _ hn with h|⟨y,hy,h⟩
    ·exact h _
    ·exact h _ ((oC hB).2 ⟨n,hy⟩)
  ·intro h;rcases hB _ _ _ h with h|⟨y,hy,h⟩
   ·exact (oC hB).2 ⟨1,h _⟩
   ·obtain⟨n,hn⟩:=(oC hB).1 hy;exact (oC hB).2 ⟨n+1,h _ hn⟩
 cases h1:gF B x with
 | some r=>exact ((key r).1 h1).symm
 | none =>
  cases h2:B (gF B) x with
  | none=>rfl
  | some r=>rw[(key r).2 h2]at h1;cases h1
def pN:Code->Option Nat
 | .region id _ _=>some id
 | .seq a b=>match pN a with
  | some i=>some i
  | none=>pN b
 | .block _ c=>pN c
 | .loop c=>pN c
 | .cond _ a _=>pN a
 | _=>none
def gJ(c:Code):Nat:=1000000+(pN c).getD 0
def mq(c:Code):Nat:=2000000+(pN c).getD 0
noncomputable def aC(E:Env){R:Type}:Code->(Ex->List V->Option R)->List V->Option R
 | .skip,k,T=>k .bJ T
 | .label _,k,T=>k .bJ T
 | .region id ops draw,k,T=>fz (E.aR id) T λT=>eL E ops draw (k .bJ) T ops.toList T []
 | .seq a b,k,T=>aC E a (λe T'=>match e with
  | .bJ=>fz (E.aR (mq b)) T' (aC E b k)
  | .ext i=>k (.ext i) T'
  | .ret=>k .ret T') T
 | .cond (.tmp t) a b,k,T=>match T.getD t .dead with
  | .d l0 n0 .bool x=>cond x (aC E a k (T.set t (.d l0 n0 .bool true))) (aC E b k (T.set t (.d l0 n0 .bool false)))
  | _=>none
 | .block id c,k,T=>aC E c (λe T'=>match e with
  | .bJ=>k .bJ T'
  | .ext i=>cond (i==id) (k .bJ T') (k (.ext i) T')
  | .ret=>k .ret T') T
 | .exit id,k,T=>k (.ext id) T
 | .loop c,k,T=>fz (E.aR (gJ c)) T (gF λself T=>aC E c (λe T'=>match e with
  | .bJ=>fz (E.aR (gJ c)) T' self
  | .ext i=>k (.ext i) T'
  | .ret=>k .ret T') T)
 | .ret,k,T=>k .ret T
 | _,_,_=>none
theorem tc{ks:Option Nat}{T:List V}{K:List V->Option R}(h:fz ks T K=some r):∃T',K T'=some r/\∀K':List V->Option R,K' T'=some r->fz ks T K'=some r:=by
 unfold fz at h ⊢;cases ks with
 | none=>exact⟨T,h,λK' h=>h⟩
 | some m =>
  dsimp only at h ⊢;cases hc:qo m T 0 T with
  | true =>
   rw[hc]at h;simp only[cond_true]at h ⊢;cases hd:decide (m<2 ^ 1000)with
   | true=>rw[hd]at h;exact⟨_,h,λK' h=>h⟩
   | false =>
    rw[hd]at h;simp only[cond_false]at h ⊢;cases he:qh m (fg m 0 T) 0 (fg m 0 T)with
    | true=>rw[he]at h;exact⟨_,h,λK' h=>h⟩
    | false=>rw[he]at h;cases h
  | false=>rw[hc]at h;cases h
theorem Kx{E:Env}{ops:Array Oper}{draw:Bool}{K:List V->Option R}{T0:List V}:{l:List Oper}->{T:List V}->{recs:List Rec}->eL E ops draw K T0 l T recs=some r ->
  ∃T',K T'=some r/\∀K':List V->Option R,K' T'=some r->eL E ops draw K' T0 l T recs=some r
 | [],T,recs,h=>by
  simp only[eL]at h ⊢;cases hc:(!draw||(kR 0 ops.toList&&lC (fZ ops.toList []) [] (recs.map λr=>(mask r.rd,mask r.wr))&&nc T0 recs&&decide (E.N<=bo)))with
  | true=>rw[hc]at h;exact⟨T,h,λK' h=>h⟩
  | false=>rw[hc]at h;cases h
 | o::l,T,recs,h=>by
  have aN:∀{T1:List V} {l0:List Nat},((E.step o).runK T1 l0 λlog ups=>eL E ops draw K T0 l (ah T1 ups) (recs++[(log,ups)]))=some r ->
    ∃T',K T'=some r/\∀K':List V->Option R,K' T'=some r->((E.step o).runK T1 l0 λlog ups=>eL E ops draw K' T0 l (ah T1 ups) (recs++[(log,ups)]))=some r:=by
   intro T1 l0 h;obtain⟨ups,log,h1,h2⟩:=M.lv h;obtain⟨T',h3,h4⟩:=Kx h2;exact⟨T',h3,λK' hK=>M.qD h1 (h4 K' hK)⟩
  have kj:∀{T1:List V} {g:Nat},((ly E o T1).bind λu=>eL E ops draw K T0 l (ah T1 u.2) (recs++[(g::u.1,u.2)]))=some r ->
    ∃T',K T'=some r/\∀K':List V->Option R,K' T'=some r->((ly E o T1).bind λu=>eL E ops draw K' T0 l (ah T1 u.2) (recs++[(g::u.1,u.2)]))=some r:=by
   intro T1 g h;obtain⟨u,h1,h2⟩:=Option.bind_eq_some_iff.1 h;obtain⟨T',h3,h4⟩:=Kx h2;exact⟨T',h3,λK' hK=>by rw[h1];exact h4 K' hK⟩
  simp only[eL]at h ⊢;cases hp:qz E o with
  | false=>rw[hp]at h;cases h
  | true =>
   rw[hp]at h;simp only[cond_true]at h ⊢;split at h
   ·exact aN h
   ·split at h
    ·cases h
    ·split at h
     ·rename_i j want _ _ g _ _ l0 n0 b _;cases b with
      | true =>
       simp only[cond_true]at h ⊢;cases want with
       | true=>exact aN h
       | false=>exact kj h
      | false =>
       simp only[cond_false]at h ⊢;cases want with
       | true=>exact kj h
       | false=>exact aN h
     ·exact kj h
     ·cases h
theorem oz[af]{E:Env}:{c:Code}->{k:Ex->List V->Option R}->{T:List V}->{r:R}->aC E c k T=some r ->
  ∃e T',k e T'=some r/\∀k':Ex->List V->Option R,k' e T'=some r->aC E c k' T=some r
 | .skip,k,T,r,h=>⟨.bJ,T,h,λk' h=>h⟩
 | .label _,k,T,r,h=>⟨.bJ,T,h,λk' h=>h⟩
 | .exit id,k,T,r,h=>⟨.ext id,T,h,λk' h=>h⟩
 | .ret,k,T,r,h=>⟨.ret,T,h,λk' h=>h⟩
 | .region id ops draw,k,T,r,h=>by
  simp only[aC]at h ⊢;obtain⟨T1,h1,h2⟩:=tc h;obtain⟨T',h3,h4⟩:=Kx h1;exact⟨.bJ,T',h3,λk' hk=>h2 _ (h4 (k' .bJ) hk)⟩
 | .seq a b,k,T,r,h=>by
  simp only[aC]at h ⊢;obtain⟨e,T1,h1,h2⟩:=oz h;cases e with
  | bJ =>
   obtain⟨T2,h5,h6⟩:=tc h1;obtain⟨e,T',h3,h4⟩:=oz h5;exact⟨e,T',h3,λk' hk=>h2 _ (h6 _ (h4 k' hk))⟩
  | ext i=>exact⟨.ext i,T1,h1,λk' hk=>h2 _ hk⟩
  | ret=>exact⟨.ret,T1,h1,λk' hk=>h2 _ hk⟩
 | .cond c a b,k,T,r,h=>by
  cases c with
  | tmp t =>
   simp only[aC]at h ⊢;split at h
   ·rename_i x _;cases x with
    | true=>exact oz h
    | false=>exact oz h
   ·cases h
  | const _=>simp[aC]at h
  | func _=>simp[aC]at h
  | global _=>simp[aC]at h
 | .block id c,k,T,r,h=>by
  simp only[aC]at h ⊢;obtain⟨e,T1,h1,h2⟩:=oz h;cases e with
  | bJ=>exact⟨.bJ,T1,h1,λk' hk=>h2 _ hk⟩
  | ext i =>
   dsimp only at h1;cases hi:i==id with
   | true=>rw[hi]at h1;exact⟨.bJ,T1,h1,λk' hk=>h2 _ (by simp only[hi];exact hk)⟩
   | false=>rw[hi]at h1;exact⟨.ext i,T1,h1,λk' hk=>h2 _ (by simp only[hi];exact hk)⟩
  | ret=>exact⟨.ret,T1,h1,λk' hk=>h2 _ hk⟩
 | .loop c,k,T,r,h=>by
  have ZM:∀(k:Ex->List V->Option R),r3 (λ(self:List V->Option R) T=>aC E c (λe T'=>match e with
    | .bJ=>fz (E.aR (gJ c)) T' self
    | .ext i=>k (.ext i) T'
    | .ret=>k .ret T') T):=by
   intro k f x r h;obtain⟨e,T1,h1,h2⟩:=oz h;cases e with
   | bJ =>
    obtain⟨T2,h3,h4⟩:=tc h1;exact .inr ⟨T2,h3,λg hg=>h2 _ (h4 g hg)⟩
   | ext i=>exact .inl λg=>h2 _ h1
   | ret=>exact .inl λg=>h2 _ h1
  simp only[aC]at h ⊢;obtain⟨T1,h1,h2⟩:=tc h;obtain⟨n,hn⟩:=(oC (ZM k)).1 h1;have key:∀n T1,iQ (λ(self:List V->Option R) T=>aC E c (λe T'=>match e with
    | .bJ=>fz (E.aR (gJ c)) T' self
    | .ext i=>k (.ext i) T'
    | .ret=>k .ret T') T) n T1=some r->∃e T',k e T'=some r/\∀k':Ex->List V->Option R,k' e T'=some r->iQ (λ(self:List V->Option R) T=>aC E c (λe T'=>match e with
    | .bJ=>fz (E.aR (gJ c)) T' self
    | .ext i=>k' (.ext i) T'
    | .ret=>k' .ret T') T) n T1=some r:=by
   intro n;induction n with
   | zero=>intro T1 h;cases h
   | succ n ih =>
    intro T1 h;simp only[iQ]at h ⊢;obtain⟨e,T2,h3,h4⟩:=oz h;cases e with
    | bJ =>
     obtain⟨T3,h5,h6⟩:=tc h3;obtain⟨e,T',h7,h8⟩:=ih T3 h5;exact⟨e,T',h7,λk' hk=>h4 _ (h6 _ (h8 k' hk))⟩
    | ext i=>exact⟨.ext i,T2,h3,λk' hk=>h4 _ hk⟩
    | ret=>exact⟨.ret,T2,h3,λk' hk=>h4 _ hk⟩
  obtain⟨e,T',h3,h4⟩:=key n T1 hn;exact⟨e,T',h3,λk' hk=>h2 _ ((oC (ZM k')).2 ⟨n,h4 k' hk⟩)⟩
 | .rangeFunc ..,k,T,r,h=>by simp[aC]at h
 | .scope _,k,T,r,h=>by simp[aC]at h
 | .goto _,k,T,r,h=>by simp[aC]at h
 | .refuse _,k,T,r,h=>by simp[aC]at h
theorem ZN[af]{E:Env}{c:Code}(k:Ex->List V->Option R):r3 (λ(self:List V->Option R) T=>aC E c (λe T'=>match e with
  | .bJ=>fz (E.aR (gJ c)) T' self
  | .ext i=>k (.ext i) T'
  | .ret=>k .ret T') T):=by
 intro f x r h;obtain⟨e,T1,h1,h2⟩:=oz h;cases e with
 | bJ =>
  obtain⟨T2,h3,h4⟩:=tc h1;exact .inr ⟨T2,h3,λg hg=>h2 _ (h4 g hg)⟩
 | ext i=>exact .inl λg=>h2 _ h1
 | ret=>exact .inl λg=>h2 _ h1
def Ex.ex:Ex->Exit
 | .bJ=>.normal
 | .ext i=>.exit i
 | .ret=>.ret
section
variable{P:Program}{w0:World}{L0:Nat->aj}{vs:List Nat}{E:Env}{A0:Array Value}{T T':List V}{a:Act}{w:World}
def J[af](w0:World)(L0:Nat->aj)(vs:List Nat)(E:Env)(A0:Array Value)(T:List V)(a:Act)(w:World):Prop :=
 (∃L,Inv w0 L0 E.N vs T a w L)/\∀p,E.pins p=true->a.tmps.getD p undef=A0.getD p undef
def rW[af](P:Program)(w0:World)(L0:Nat->aj)(vs:List Nat)(E:Env):Prop :=
 P.follows .mixedOrders=true/\∀o T ups log a w L,Inv w0 L0 E.N vs T a w L->(E.step o).ai T ups log->Step P o w0 L0 E.N vs (ah T ups) a w
theorem kD[af]{dst:Option Tmp}{v:Value}{s:Nat}(h:dst≠some s):(a.put dst v).tmps.getD s undef=a.tmps.getD s undef:=by
 cases dst with
 | none=>rfl
 | some d =>
  show (a.tmps.setIfInBounds d v).getD s undef=_;rw[dY,if_neg (λe=>h (by rw[e.1]))]
theorem at2[af]{K:Act->World->Prop}{Q:Exit->Act->World->Prop}(h:o.wp P a w K Q):
  o.wp P a w (λa' w'=>K a' w'/\∀s,o.dst≠some s->a'.tmps.getD s undef=a.tmps.getD s undef) Q:=by
 unfold Oper.wp at *
 generalize (execOp a.eval o).run P w=r at *
 cases r with
 | ok n w' =>
  cases n<;>simp only[Oper.upon]at h ⊢
  case value v=>exact⟨h,λs hs=>kD hs⟩
  case skip=>exact⟨h,λs hs=>kD hs⟩
  case defer d=>exact⟨h,λs hs=>kD (a:={ a with defers:=d::a.defers }) hs⟩
  case enter f args =>
   refine Calls.mono h (λe w'' he=>?_);cases e with
   | returned v=>exact⟨he,λs hs=>kD hs⟩
   | panicked c=>exact he
   | outgrown=>exact he
  case row=>exact Rows.mono h (λv w'' he=>⟨he,λs hs=>kD hs⟩)
  all_goals exact h
 | halt x w'=>cases x<;>simp only[Oper.upon]at h ⊢<;>exact h
def rJ(E:Env)(o:Oper)(T:List V)(r:Rec):Prop:=r.2=o.dst.toList.map (λd=>(d,V.bF []))/\∀d,o.dst=some d->(T.getD d .dead).idle=true/\d<E.N/\d∈r.1
def qV(E:Env)(ops:Array Oper)(o:Oper)(T:List V)(r:Rec):Prop :=
 qz E o=true /\
 ((o.guard=none/\∃log,(E.step o).ai T r.2 log/\∀s∈log,s∈r.1) \/
  (∃j want g l0 n0 b,o.guard=some (j,want)/\(ops[j]?).bind (·.dst)=some g/\T.getD g .dead = .d l0 n0 .bool b/\g∈r.1 /\
  ((b=want/\∃log,(E.step o).ai T r.2 log/\∀s∈log,s∈r.1)\/(b≠want/\rJ E o T r))) \/
  ∃j want g,o.guard=some (j,want)/\(ops[j]?).bind (·.dst)=some g/\T.getD g .dead = .bF []/\g∈r.1/\rJ E o T r)
theorem qV.agree[af]{ops:Array Oper}{r:Rec}(hl:T.length<=bo)(dR:T'.length=T.length)(h:qV E ops o T r)(hT:∀s∈r.1,LD T T' s):qV E ops o T' r:=by
 have jm:∀s∈r.1,T'.getD s .dead=T.getD s .dead:=λs hs=>by
  by_cases hk:s<bo
  ·exact (hT s hs).1 hk
  ·rw[eF (by omega),eF (by omega)]
 refine⟨h.1,?_⟩;have kj:rJ E o T r->rJ E o T' r:=λ⟨h6,h7⟩=>⟨h6,λd hd=>by
  obtain⟨h8,h9,lU⟩:=h7 d hd;exact⟨by rw[jm d lU];exact h8,h9,lU⟩⟩
 rcases h.2 with⟨h1,log,h2,h3⟩|⟨j,want,g,l0,n0,b,h1,h2,h3,h4,h5⟩|⟨j,want,g,h1,h2,h3,h4,h5⟩
 ·exact .inl ⟨h1,log,M.o4 hl dR h2 (λs hs=>hT s (h3 s hs)),h3⟩
 ·refine .inr (.inl ⟨j,want,g,l0,n0,b,h1,h2,(jm g h4).trans h3,h4,?_⟩);rcases h5 with⟨h5,log,h6,h7⟩|⟨h5,h6⟩
  ·exact .inl ⟨h5,log,M.o4 hl dR h6 (λs hs=>hT s (h7 s hs)),h7⟩
  ·exact .inr ⟨h5,kj h6⟩
 ·exact .inr (.inr ⟨j,want,g,h1,h2,(jm g h4).trans h3,h4,kj h5⟩)
theorem Inv.at6[af]{L:Nat->aj}(hI:Inv w0 L0 E.N vs T a w L){ops:Array Oper}{j:Nat}{l0:Option Nat}{n0:Nat}{b:Bool}(h2:(ops[j]?).bind (·.dst)=some g)(h3:T.getD g .dead = .d l0 n0 .bool b):
  yielded ops a.tmps j=some b:=by
 have hs:=hI.aV g;rw[h3]at hs;have hb:=hs.bool;unfold yielded;rw[h2];have ax:g<a.tmps.size:=by
  rcases Nat.lt_or_ge g a.tmps.size with h|h
  ·exact h
  ·exfalso;rw[hI.size]at h;rw[eF (by rw[hI.len];exact h)]at h3;cases h3
 simp only[Option.bind_some,Array.getElem?_eq_getElem ax];simp only[Array.getD_eq_getD_getElem?,Array.getElem?_eq_getElem ax,Option.getD_some]at hb;rw[hb]
theorem Inv.amp[af]{L:Nat->aj}(hI:Inv w0 L0 E.N vs T a w L){ops:Array Oper}{j:Nat}(h2:(ops[j]?).bind (·.dst)=some g)(h3:T.getD g .dead = .bF []):yielded ops a.tmps j=none:=by
 have hs:=hI.aV g;rw[h3]at hs;obtain⟨us,hu,_⟩:=hs;unfold yielded;rw[h2];simp only[Option.bind_some];rw[Array.getD_eq_getD_getElem?]at hu;cases hg:a.tmps[g]? with
 | none=>rfl
 | some c =>
  rw[hg]at hu;simp only[Option.getD_some]at hu;rw[hu]
theorem Inv.skip[af]{L:Nat->aj}(hI:Inv w0 L0 E.N vs T a w L){dst:Option Nat}(h:∀d,dst=some d->(T.getD d .dead).idle=true/\d<E.N):
  Inv w0 L0 E.N vs (ah T (dst.toList.map λd=>(d,V.bF []))) (a.put dst undef) w L:=by
 cases dst with
 | none=>exact hI
 | some d =>
  obtain⟨h1,h2⟩:=h d rfl;exact Inv.set hI h2 h1 (eo.refl hI d) (.bF []) undef (λk q hk h=>by rw[hI.free k hk]at h;cases h) (λr hr=>by simp[V.on,V.root]at hr) ⟨#[],rfl,rfl⟩
theorem YQ(h:qz E o=true){p:Nat}(hp:E.pins p=true):o.dst≠some p:=by
 intro e;unfold qz at h;rw[e]at h;simp[hp]at h
theorem Ux[af]{ops:Array Oper}{Q:Exit->Act->World->Prop}(a7:rW P w0 L0 vs E){r:Rec}(h:qV E ops o T r):LC P ops (J w0 L0 vs E A0) Q o T (ah T r.2):=by
 intro a w hJ K hK;obtain⟨⟨L,hI⟩,sR⟩:=hJ;have wH:∀log,(E.step o).ai T r.2 log->o.wp P a w K Q:=by
  intro log hr;have h1:=a7.2 o T r.2 log a w L hI hr;have h2:=h1 (λa' w'=>∃L',Inv w0 L0 E.N vs (ah T r.2) a' w' L') Q (λa' w' L' h=>⟨L',h⟩);exact Oper.wp_mono (λa' w' hh=>hK a' w' ⟨hh.1,λp hp=>(hh.2 p (YQ h.1 hp)).trans (sR p hp)⟩) (at2 h2)
 have kj:rJ E o T r->K (a.put o.dst undef) w:=λ⟨h6,h7⟩=>by
  rw[h6]at hK;exact hK _ _ ⟨⟨L,hI.skip (λd hd=>⟨(h7 d hd).1,(h7 d hd).2.1⟩)⟩,λp hp=>(kD (YQ h.1 hp)).trans (sR p hp)⟩
 rcases h.2 with⟨h1,log,h2,h3⟩|⟨j,want,g,l0,n0,b,h1,h2,h3,h4,h5⟩|⟨j,want,g,h1,h2,h3,h4,h5⟩
 ·rw[if_pos (by simp[Region.wanted,h1])];exact wH log h2
 ·have hy:=hI.at6 h2 h3;have hw:Region.wanted o (yielded ops a.tmps)=(b==want):=by
   simp[Region.wanted,h1,hy]
  rw[hw];rcases h5 with⟨rfl,log,h6,h7⟩|⟨h5,h6⟩
  ·rw[if_pos (by simp)];exact wH log h6
  ·rw[if_neg (by simpa using h5)];exact kj h6
 ·have hy:=hI.amp h2 h3;rw[if_neg (by simp[Region.wanted,h1,hy])];exact kj h5
def qU(E:Env)(ops:Array Oper):List Oper->List V->List Rec->List V->Prop
 | [],T,[],T'=>T=T'
 | o::l,T,r::rs,T'=>qV E ops o T r/\qU E ops l (ah T r.2) rs T'
 | _,_,_,_=>False
theorem Zl[af]{T:List V}{v:V}(h:T.getD g .dead=v)(hv:v ≠ .dead):T.set g v=T:=by
 refine CE (by simp) (λs=>?_);rw[aH];split
 ·rename_i hs;rw[hs.1,h]
 ·rfl
theorem Zm{u:List Nat×List (Nat×V)}(h1:ly E o T=some u):rJ E o T (g::u.1,u.2):=by
 unfold ly at h1;split at h1
 ·rename_i hd;injection h1 with h1;subst h1;exact⟨by simp[hd],λd oK=>by rw[hd]at oK;cases oK⟩
 ·rename_i d hd;cases hc:((T.getD d .dead).idle&&decide (d<E.N))with
  | false=>rw[hc]at h1;cases h1
  | true =>
   rw[hc]at h1;simp only[cond_true,Option.some.injEq]at h1;subst h1;simp only[Bool.and_eq_true,decide_eq_true_eq]at hc;refine⟨by simp[hd],λd' oK=>?_⟩;rw[hd]at oK;injection oK with oK;subst oK;exact⟨hc.1,hc.2,by simp⟩
theorem xd[af]{ops:Array Oper}{draw:Bool}{K:List V->Option R}{T0:List V}:{l:List Oper}->{T:List V}->{recs:List Rec}->eL E ops draw K T0 l T recs=some r ->
  ∃rs T',qU E ops l T rs T'/\K T'=some r/\rs.length=l.length/\(draw=true->kR 0 ops.toList=true/\lC (fZ ops.toList []) [] ((recs++rs).map λr=>(mask r.rd,mask r.wr))=true/\nc T0 (recs++rs)=true/\E.N<=bo)
 | [],T,recs,h=>by
  simp only[eL]at h;cases hc:(!draw||(kR 0 ops.toList&&lC (fZ ops.toList []) [] (recs.map λr=>(mask r.rd,mask r.wr))&&nc T0 recs&&decide (E.N<=bo)))with
  | false=>rw[hc]at h;cases h
  | true =>
   rw[hc]at h;refine⟨[],T,rfl,h,rfl,λhd=>?_⟩;subst hd;simp only[Bool.not_true,Bool.false_or,Bool.and_eq_true,decide_eq_true_eq]at hc;rw[List.append_nil];exact⟨hc.1.1.1,hc.1.1.2,hc.1.2,hc.2⟩
 | o::l,T,recs,h=>by
  simp only[eL]at h;cases hp:qz E o with
  | false=>rw[hp]at h;cases h
  | true =>
   rw[hp]at h;simp only[cond_true]at h;split at h
   ·rename_i hg;obtain⟨ups,log,h1,h2⟩:=M.lv h;obtain⟨rs,T',h3,h4,h5,h6⟩:=xd h2;exact⟨(log.reverse++[],ups)::rs,T',⟨⟨hp,.inl ⟨hg,log,h1,by simp⟩⟩,h3⟩,h4,by simp[h5],by simpa using h6⟩
   ·rename_i j want hg;split at h
    ·cases h
    ·rename_i g ay;split at h
     ·rename_i l0 n0 b hT;have key:∀b',T.getD g .dead = .d l0 n0 .bool b'->T.set g (.d l0 n0 .bool b')=T:=λb' hT=>Zl hT (by simp);have aN:∀b',T.getD g .dead = .d l0 n0 .bool b'->b'=want->((E.step o).runK (T.set g (.d l0 n0 .bool b')) [g] λlog ups=>eL E ops draw K T0 l (ah (T.set g (.d l0 n0 .bool b')) ups) (recs++[(log,ups)]))=some r ->
        ∃rs T',qU E ops (o::l) T rs T'/\K T'=some r/\rs.length=(o::l).length/\(draw=true->kR 0 ops.toList=true/\lC (fZ ops.toList []) [] ((recs++rs).map λr=>(mask r.rd,mask r.wr))=true/\nc T0 (recs++rs)=true/\E.N<=bo):=by
       intro b' hT IV h;rw[key b' hT]at h;obtain⟨ups,log,h1,h2⟩:=M.lv h;obtain⟨rs,T',h3,h4,h5,h6⟩:=xd h2;refine⟨(log.reverse++[g],ups)::rs,T',⟨⟨hp,.inr (.inl ⟨j,want,g,l0,n0,b',hg,ay,hT,by simp,.inl ⟨IV,log,h1,λs hs=>by simp[hs]⟩⟩)⟩,h3⟩,h4,by simp[h5],by simpa using h6⟩
      have kj:∀b',T.getD g .dead = .d l0 n0 .bool b'->b'≠want->((ly E o (T.set g (.d l0 n0 .bool b'))).bind λu=>eL E ops draw K T0 l (ah (T.set g (.d l0 n0 .bool b')) u.2) (recs++[(g::u.1,u.2)]))=some r ->
        ∃rs T',qU E ops (o::l) T rs T'/\K T'=some r/\rs.length=(o::l).length/\(draw=true->kR 0 ops.toList=true/\lC (fZ ops.toList []) [] ((recs++rs).map λr=>(mask r.rd,mask r.wr))=true/\nc T0 (recs++rs)=true/\E.N<=bo):=by
       intro b' hT IV h;rw[key b' hT]at h;obtain⟨u,h1,h2⟩:=Option.bind_eq_some_iff.1 h;obtain⟨rs,T',h3,h4,h5,h6⟩:=xd h2;exact⟨(g::u.1,u.2)::rs,T',⟨⟨hp,.inr (.inl ⟨j,want,g,l0,n0,b',hg,ay,hT,by simp,.inr ⟨IV,Zm h1⟩⟩)⟩,h3⟩,h4,by simp[h5],by simpa using h6⟩
      cases b with
      | true =>
       simp only[cond_true]at h;cases want with
       | true=>exact aN true hT rfl h
       | false=>exact kj true hT (by simp) h
      | false =>
       simp only[cond_false]at h;cases want with
       | true=>exact kj false hT (by simp) h
       | false=>exact aN false hT rfl h
     ·rename_i hT;obtain⟨u,h1,h2⟩:=Option.bind_eq_some_iff.1 h;obtain⟨rs,T',h3,h4,h5,h6⟩:=xd h2;exact⟨(g::u.1,u.2)::rs,T',⟨⟨hp,.inr (.inr ⟨j,want,g,hg,ay,hT,by simp,Zm h1⟩)⟩,h3⟩,h4,by simp[h5],by simpa using h6⟩
     ·cases h
theorem Ue[af]{ops:Array Oper}:{l:List Oper}->{T:List V}->{rs:List Rec}->{T':List V}->{k:Nat}->qU E ops l T rs T' ->
  T'=dp (λ_=>true) k rs T/\∀(i:Nat) (o:Oper) (r:Rec),l[i]?=some o->rs[i]?=some r->qV E ops o (dp (λj=>decide (j<k+i)) k rs T) r
 | [],T,[],T',k,h=>⟨h.symm,λi o r hi _=>by simp at hi⟩
 | o::l,T,r::rs,T',k,⟨h1,h2⟩=>by
  obtain⟨h3,h4⟩:=Ue (k:=k+1) h2;refine⟨by simpa[dp]using h3,λi o' r' hi hr=>?_⟩;cases i with
  | zero =>
   simp only[List.getElem?_cons_zero,Option.some.injEq]at hi hr;subst hi hr;rw[xp (λj hj=>by simp;omega)];exact h1
  | succ i =>
   have:=h4 i o' r' (by simpa using hi) (by simpa using hr);simp only[dp];rw[if_pos (by simp)]
   rwa [show k+(i+1)=k+1+i by omega]
 | [],_,_::_,_,_,h=>h.elim
 | _::_,_,[],_,_,h=>h.elim
theorem J.len[af](h:J w0 L0 vs E A0 T a w):T.length=E.N:=by obtain⟨⟨L,hI⟩,_⟩:=h;exact hI.len
theorem Uf[af]{ops:Array Oper}{Q:Exit->Act->World->Prop}(a7:rW P w0 L0 vs E):{l:List Oper}->{T:List V}->{rs:List Rec}->{i:Nat}->(∀k o,l[k]?=some o->ops[i+k]?=some o)->qU E ops l T rs T' ->
  (∀a' w',J w0 L0 vs E A0 T' a' w'->Q .normal a' w')->∀a w,J w0 L0 vs E A0 T a w->wpOps P ops Q (List.range' i l.length) a w
 | [],T,[],i,_,h,hQ,a,w,hJ=>by
  obtain rfl:T=T':=h;simp only[List.length_nil,List.range'_zero,wpOps];exact hQ a w hJ
 | o::l,T,r::rs,i,ho,⟨h1,h2⟩,hQ,a,w,hJ=>by
  simp only[List.length_cons,List.range'_succ];refine Z1 (by simpa using ho 0 o rfl) ?_;refine Ux a7 h1 a w hJ _ (λa' w' eG=>Uf a7 (λk o hk=>?_) h2 hQ a' w' eG);have:=ho (k+1) o (by simpa using hk)
  rwa [show i+(k+1)=i+1+k by omega]at this
 | [],_,_::_,_,_,h,_,_,_,_=>h.elim
 | _::_,_,[],_,_,h,_,_,_,_=>h.elim
theorem J.drawn[af](h:J w0 L0 vs E A0 T a w)(n:Nat)(hn:w.drawn<=n):J w0 L0 vs E A0 T a { w with drawn:=n }:=by
 obtain⟨⟨L,hI⟩,hp⟩:=h;refine⟨⟨L,hI.size,hI.len,hI.dP,⟨hI.fr.os,hI.fr.tape,hI.fr.output,hI.fr.size,Nat.le_trans hI.fr.drawn hn,hI.fr.aR,hI.fr.hG⟩,hI.free,hI.inj,hI.owner,hI.roots,λs=>?_⟩,hp⟩;exact aB.aR (w:=w) (w':={ w with drawn:=n }) (L':=L) (T':=T) (tm':=a.tmps) (λk _=>⟨rfl,rfl⟩) (λ_ _ _=>⟨rfl,rfl⟩) (hI.aV s)
theorem am9[af]{ops:Array Oper}{draw:Bool}{id:Nat}{K:List V->Option R}(a7:rW P w0 L0 vs E)(h:eL E ops draw K T ops.toList T []=some r)(hJ:J w0 L0 vs E A0 T a w):
  (Code.region id ops draw).wp P (λe a' w'=>e = .normal/\∃T',K T'=some r/\J w0 L0 vs E A0 T' a' w') a w:=by
 obtain⟨rs,T',VA,hK,hlen,aiW⟩:=xd h;have bp:rs.length=ops.size:=by simpa using hlen
 cases draw with
 | false =>
  refine wp_region ?_;have:=Uf (A0:=A0) (Q:=λe a' w'=>e = .normal/\∃T',K T'=some r/\J w0 L0 vs E A0 T' a' w') a7 (i:=0) (λk o hk=>by simpa using hk) VA (λa' w' eG=>⟨rfl,T',hK,eG⟩) a w hJ;rw[List.range_eq_range'];simpa using this
 | true =>
  obtain⟨hb,ht,hq,hN⟩:=aiW rfl;rw[List.nil_append]at hq;obtain⟨h1,h2⟩:=Ue (k:=0) VA;refine wp_region_draw λt=>?_;rw[a7.1];refine Y1 (J:=J w0 L0 vs E A0) (N:=E.N) (recs:=rs) (T0:=T) hJ.len hN bp (ahJ hq) ?_ (aon bp (by simpa using ht)) ?_ _ [] ann (λi hi=>by simp at hi) (λi hi=>.inr (anm (ahM hb) i hi)) a _ ?_
  ·intro i o rc ho hr T1 jm IT B4;have:=h2 i o rc (by simpa using ho) hr;simp only[Nat.zero_add]at this;exact Ux a7 (this.agree (by rw[iX,hJ.len];exact hN) (by rw[iX,hJ.len,jm]) (λs hs=>⟨λhk=>IT s (List.mem_append_left _ hs) hk,λhk _=>B4 s hs hk⟩))
  ·intro a' w' eG;rw[<-h1]at eG;exact⟨rfl,T',hK,eG⟩
  ·rw[xp (λj _=>by simp)];exact hJ.drawn _ (Nat.le_succ _)
theorem XG:{i:Nat}->{l:List V}->(s:Nat)->(fg m i l).getD s .dead=if (m.testBit (i+s))=true then l.getD s .dead else .dead
 | i,[],s=>by simp[fg]
 | i,v::l,0=>by
  simp only[fg,List.getD_cons_zero,Nat.add_zero];cases m.testBit i<;>rfl
 | i,v::l,s+1=>by
  simp only[fg,List.getD_cons_succ];rw[XG,show i+1+s=i+(s+1)by omega]
theorem XH:{i:Nat}->{l:List V}->(fg m i l).length=l.length
 | _,[]=>rfl
 | i,v::l=>by simp[fg,XH]
theorem XI{T:List V}:{i:Nat}->{l:List V}->qo m T i l=true->∀s r,m.testBit (i+s)=true->(l.getD s .dead).root=some r->m.testBit r=true\/(T.getD r .dead).aL=false
 | _,[],_,s,r,_,hr=>by simp[V.root]at hr
 | i,v::l,h,s,r,hs,hr=>by
  simp only[qo,Bool.and_eq_true,Bool.or_eq_true,Bool.not_eq_true']at h;cases s with
  | zero =>
   rw[List.getD_cons_zero]at hr;rw[hr]at h;have:=h.1.resolve_left (by rw[show i=i+0 from rfl,hs];simp);simpa using this
  | succ s =>
   refine XI h.2 s r (by rwa [show i+1+s=i+(s+1)by omega]) (by simpa using hr)
def nm(X nb:Nat->Bool)(lev:Nat->Nat):Nat->List Nat->aj:=λz q=>cond (X z&&(decide (lev z+1<=q.length)||(q.isEmpty&&nb z))) .aq (.own z q)
theorem BU{X nb:Nat->Bool}{lev:Nat->Nat}{z z':Nat}{q':List Nat}(h:nm X nb lev z q = .own z' q'):z'=z/\q'=q/\(X z=true->q.length<=lev z/\(q=[]->nb z=false)):=by
 unfold nm at h;cases hz:X z&&(decide (lev z+1<=q.length)||(q.isEmpty&&nb z))with
 | true=>rw[hz]at h;cases h
 | false =>
  rw[hz]at h;simp only[cond_false]at h;injection h with h1 h2;refine⟨h1.symm,h2.symm,λe=>?_⟩;rw[e,Bool.true_and,Bool.or_eq_false_iff,decide_eq_false_iff_not]at hz;refine⟨by omega,λe2=>?_⟩;have:=hz.2;rw[e2]at this;simpa using this
theorem U0[af]{X nb:Nat->Bool}{lev:Nat->Nat}:fF (nm X nb lev) (λz=>X z=true):=by
 refine⟨λz q hX=>?_,λz q z' q' hX h=>?_,λz q z2 q2 z' q' h1 h2=>?_,λz q=>?_⟩
 ·unfold nm;cases hz:X z with
  | true=>exact absurd hz hX
  | false=>rfl
 ·obtain⟨rfl,_⟩:=BU h;exact hX
 ·obtain⟨rfl,rfl,_⟩:=BU h1;obtain⟨h3,h4,_⟩:=BU h2;exact⟨h3,h4⟩
 ·unfold nm;cases X z&&(decide (lev z+1<=q.length)||(q.isEmpty&&nb z))<;>simp
theorem aii{v:V}:(fI k v).root=v.root:=by cases v<;>rfl
theorem Inv.freeze[af]{N:Nat}{L:Nat->aj}(hI:Inv w0 L0 N vs T a w L){X:Nat->Bool}{lev:Nat->Nat}(ag:∀z r,X r=true->(T.getD z .dead).on r=false)(hv:∀s,X s=true->(T.getD s .dead).qi=true)
  (VY:∀s,X s=true->lev s<=(T.getD s .dead).lvl)
  (hlen:T'.length=N) (hT:∀z,T'.getD z .dead=cond (X z) (fI (lev z) (T.getD z .dead)) (T.getD z .dead)) :
  ∃L',Inv w0 L0 N vs T' a w L':=by
 let nb:Nat->Bool:=λz=>match T.getD z .dead with | .box .. =>false|_=>true
 have jm:∀z,X z=true->T'.getD z .dead=fI (lev z) (T.getD z .dead):=λz h=>by rw[hT,h];rfl
 have pQ:∀z,X z=false->T'.getD z .dead=T.getD z .dead:=λz h=>by rw[hT,h];rfl
 have wC:∀z r,(T.getD z .dead).root=some r->X r=false:=λz r h=>by
  cases hr:X r with
  | false=>rfl
  | true =>
   have:=ag z r hr;unfold V.on at this;rw[h]at this;simp at this
 have Vo:∀(l:Option Nat),(∀r,l=some r->X r=false)->∀k,SL L l k->SL (aS (nm X nb lev) w L (λ_=>.free)) l k/\w.heap[k]?=w.heap[k]?:=by
  rintro l hl k (hk|⟨r,q,hr,hk⟩)
  ·exact⟨.inl (ez hI hk),rfl⟩
  ·exact⟨.inr ⟨r,q,hr,w7 hI U0 hk (λe=>by rw[hl r hr]at e;cases e)⟩,rfl⟩
 have gd:∀s (l:Option Nat),X s=true->∀k d rest,L k = .own s ([]++(0+d)::rest)->w.heap[k]?=w.heap[k]?/\(rest.length<lev s->aS (nm X nb lev) w L (λ_=>.free) k = .own s ([]++(0+d)::rest))/\(lev s<=rest.length->SL (aS (nm X nb lev) w L (λ_=>.free)) l k):=by
  intro s l hs k d rest hk;have hc:([]++(0+d)::rest:List Nat).length=rest.length+1:=by simp
  unfold SL;rw[cX hI (by rw[hk];simp),hk];refine⟨rfl,λh=>?_,λh=>.inl ?_⟩
  ·show cond _ _ _=_;rw[hs,hc,decide_eq_false (by omega),show (([]++(0+d)::rest:List Nat).isEmpty)=false from rfl];rfl
  ·show cond _ _ _=_;rw[hs,hc,decide_eq_true (by omega)];rfl
 refine⟨aS (nm X nb lev) w L (λ_=>.free),Inv.gP hI U0 (Wd.refl hI _) (λ_ _ _ _ _ h=>by cases h) hI.size hlen hI.dP ?_ ?_ ?_ ?_ ?_⟩
 ·intro k s' q bM h;rw[jm _ bM];unfold aS at h;split at h
  ·obtain⟨s0,q0,e0,f0⟩:=eV h;obtain⟨rfl,rfl,h3⟩:=BU f0;have hb:=h3 bM;have hi:=hv _ bM;have ho:=hI.owner k _ _ e0;have l9:=VY _ bM;have bb:=hI.aV s';have hq:q=[]->nb s'=false:=hb.2;have hb:=hb.1;have V5:nb s'=match T.getD s' .dead with | .box .. =>false|_=>true:=rfl
   generalize T.getD s' .dead=u at hi ho l9 V5;have hq:(∃l n t x,u = .d l n t x)->q≠[]:=by
    rintro⟨l,n,t,x,rfl⟩ e
    rw[V5]at hq;exact absurd (hq e) (by simp)
   cases u with
   | d l n t x =>
    have hq:=hq ⟨l,n,t,x,rfl⟩;have:=List.length_pos_iff.2 hq;simp only[V.aL,fI,Bool.and_eq_true,bne_iff_ne,ne_eq]at ho ⊢;exact⟨by omega,ho.2⟩
   | box l n t x=>rfl
   | _=>simp[V.qi]at hi
  ·cases h
 ·intro z r hz ho hr;rw[ag z r hr]at ho;cases ho
 ·intro z hz;rw[pQ z (by simpa using hz)];exact⟨rfl,rfl⟩
 ·intro z r hz ho;rw[jm z hz]at ho;refine hI.roots z r ?_;unfold V.on at ho ⊢
  rwa [aii]at ho
 ·intro z hz;rw[jm z hz];have bb:=hI.aV z;have cn:=wC z;have hi:=hv z hz;have l9:=VY z hz;have V6:nb z=match T.getD z .dead with | .box .. =>false|_=>true:=rfl
  generalize T.getD z .dead=u at bb cn hi l9 V6;have jW:∀l:Option Nat,(∀r,l=some r->X r=false)->(∀r,l=some r->(T.getD r .dead).deep=true)->∀r,l=some r->(T'.getD r .dead).deep=true:=by
   intro l hl h r hr;rw[pQ r (hl r hr)];exact h r hr
  cases u with
  | d l n t x =>
   obtain⟨h1,cs,h2,h3⟩:=bb;have hm:min (lev z) n=lev z:=Nat.min_eq_left l9;refine⟨jW l cn h1,cs,h2,?_⟩;rw[hm];exact Own.fi l9 (Vo l cn) (λk d rest _ hk=>gd z l hz k d rest hk) h3
  | box l n t x =>
   obtain⟨h1,g,cur,e,h2,h3,h4,h5,h6⟩:=bb;have hm:min (lev z) n=lev z:=Nat.min_eq_left l9;refine⟨jW l cn h1,g,cur,e,h2,?_,h4,h5,?_⟩
   ·rw[cX hI (by rw[h3];simp),h3];show cond _ _ _=_;rw[hz,decide_eq_false (by simp),V6];rfl
   ·rw[hm];exact Own.fi l9 (Vo l cn) (λk d rest _ hk=>gd z l hz k d rest hk) h6
  | _=>simp[V.qi]at hi
theorem Yy{r:Nat}:{l:List V}->tl r l=true->∀z,(l.getD z .dead).on r=false
 | [],_,z=>by simp[V.on,V.root]
 | v::l,h,0=>by simp only[tl,Bool.and_eq_true,Bool.not_eq_true']at h;simpa using h.1
 | v::l,h,z+1=>by simp only[tl,Bool.and_eq_true]at h;simpa using Yy h.2 z
theorem JF{T:List V}:{i:Nat}->{l:List V}->qh m T i l=true->∀s,s<l.length->(m.testBit (1000+(i+s))||m.testBit (2000+(i+s)))=true->(l.getD s .dead).qi=true/\tl (i+s) T=true
 | _,[],_,s,hs,_=>by simp at hs
 | i,v::l,h,s,hs,hb=>by
  simp only[qh,Bool.and_eq_true,Bool.or_eq_true,Bool.not_eq_true']at h;cases s with
  | zero =>
   have:=h.1.resolve_left (by rw[show (m.testBit (1000+i)||m.testBit (2000+i))=true from hb];simp);simpa using this
  | succ s =>
   have:=JF h.2 s (by simpa using hs) (by rwa [show i+1+s=i+(s+1)by omega]);rw[show i+1+s=i+(s+1)by omega]at this;simpa using this
theorem Wx:{i:Nat}->{l:List V}->(s:Nat)->(mo m i l).getD s .dead=cond (m.testBit (1000+(i+s))) (fI 0 (l.getD s .dead)) (cond (m.testBit (2000+(i+s))) (fI 1 (l.getD s .dead)) (l.getD s .dead))
 | i,[],s=>by
  simp only[mo,List.getD_nil];cases m.testBit (1000+(i+s))<;>cases m.testBit (2000+(i+s))<;>rfl
 | i,v::l,0=>by
  simp only[mo,List.getD_cons_zero,Nat.add_zero]
 | i,v::l,s+1=>by
  simp only[mo,List.getD_cons_succ];rw[Wx,show i+1+s=i+(s+1)by omega]
theorem Wy:{i:Nat}->{l:List V}->(mo m i l).length=l.length
 | _,[]=>rfl
 | i,v::l=>by simp[mo,Wy]
theorem CB[af]{ks:Option Nat}{K:List V->Option R}(h:fz ks T K=some r)(hJ:J w0 L0 vs E A0 T a w):∃T',K T'=some r/\J w0 L0 vs E A0 T' a w:=by
 unfold fz at h;split at h
 ·exact⟨T,h,hJ⟩
 ·rename_i m;cases hc:qo m T 0 T with
  | false=>rw[hc]at h;cases h
  | true =>
   rw[hc]at h;simp only[cond_true]at h;obtain⟨⟨L,hI⟩,hp⟩:=hJ;have hk:Inv w0 L0 E.N vs (fg m 0 T) a w _:=Inv.kill hI (λs => !m.testBit s) (by rw[XH,hI.len]) (λs=>by
    rw[XG,Nat.zero_add];cases m.testBit s<;>rfl) (λs r hs mf kg=>by
    have:=XI hc s r (by simpa using hs) (by simpa[V.on]using mf);rcases this with h|h
    ·simp[h]
    ·rw[h]at kg;cases kg)
   cases hd:decide (m<2 ^ 1000)with
   | true=>rw[hd]at h;exact⟨_,h,⟨_,hk⟩,hp⟩
   | false =>
    rw[hd]at h;simp only[cond_false]at h;cases he:qh m (fg m 0 T) 0 (fg m 0 T)with
    | false=>rw[he]at h;cases h
    | true =>
     rw[he]at h;have hfz:∀v:V,fI (min 1 v.lvl) v=fI 1 v:=λv=>by
      cases v<;>simp[fI,V.lvl,Nat.min_assoc]
     refine⟨_,h,Inv.freeze hk (X:=λs=>(m.testBit (1000+s)||m.testBit (2000+s))&&decide (s<(fg m 0 T).length)) (lev:=λs=>cond (m.testBit (1000+s)) 0 (min 1 ((fg m 0 T).getD s .dead).lvl)) (λz r hr=>?_) (λs hs=>?_) (λs hs=>?_) (by rw[Wy,hk.len]) (λz=>?_),hp⟩
     ·rw[Bool.and_eq_true,decide_eq_true_eq]at hr;have:=(JF he r hr.2 (by rw[Nat.zero_add];exact hr.1)).2;rw[Nat.zero_add]at this;exact Yy this z
     ·rw[Bool.and_eq_true,decide_eq_true_eq]at hs;exact (JF he s hs.2 (by rw[Nat.zero_add];exact hs.1)).1
     ·show cond _ _ _<=_;cases m.testBit (1000+s)
      ·exact Nat.min_le_right _ _
      ·exact Nat.zero_le _
     ·rw[Wx,Nat.zero_add];by_cases hz:z<(fg m 0 T).length
      ·rw[decide_eq_true hz,Bool.and_true];cases m.testBit (1000+z)<;>cases m.testBit (2000+z)
       ·rfl
       ·exact (hfz _).symm
       ·rfl
       ·rfl
      ·rw[decide_eq_false hz,Bool.and_false,List.getD_eq_getElem?_getD,List.getElem?_eq_none (by omega)];cases m.testBit (1000+z)<;>cases m.testBit (2000+z)<;>rfl
def aed[af]{R:Type}(w0:World)(L0:Nat->aj)(vs:List Nat)(E:Env)(A0:Array Value)(k:Ex->List V->Option R)(r:R):Exit->Act->World->Prop :=
 λe a' w'=>∃ex T',e=ex.ex/\k ex T'=some r/\J w0 L0 vs E A0 T' a' w'
theorem pI[af](a7:rW P w0 L0 vs E):{c:Code}->{k:Ex->List V->Option R}->{T:List V}->aC E c k T=some r->∀a w,J w0 L0 vs E A0 T a w->c.wp P (aed w0 L0 vs E A0 k r) a w
 | .skip,k,T,h,a,w,hJ=>wp_skip ⟨.bJ,T,rfl,h,hJ⟩
 | .label _,k,T,h,a,w,hJ=>wp_label ⟨.bJ,T,rfl,h,hJ⟩
 | .exit id,k,T,h,a,w,hJ=>wp_exit ⟨.ext id,T,rfl,h,hJ⟩
 | .ret,k,T,h,a,w,hJ=>wp_ret ⟨.ret,T,rfl,h,hJ⟩
 | .region id ops draw,k,T,h,a,w,hJ=>by
  simp only[aC]at h;obtain⟨T1,h1,vG⟩:=CB h hJ;refine wp_mono (am9 a7 h1 vG) ?_
  rintro e a' w' ⟨rfl,T',hk,eG⟩
  exact⟨.bJ,T',rfl,hk,eG⟩
 | .seq x y,k,T,h,a,w,hJ=>by
  simp only[aC]at h;refine wp_seq (wp_mono (pI a7 h a w hJ) ?_)
  rintro e a' w' ⟨ex,T',rfl,hk,eG⟩
  cases ex with
  | bJ =>
   obtain⟨T1,h1,vG⟩:=CB hk eG;exact pI a7 h1 a' w' vG
  | ext i=>exact⟨.ext i,T',rfl,hk,eG⟩
  | ret=>exact⟨.ret,T',rfl,hk,eG⟩
 | .cond c x y,k,T,h,a,w,hJ=>by
  cases c with
  | tmp t =>
   simp only[aC]at h;split at h
   ·rename_i l0 n0 b hT;have hb:a.eval (.tmp t) = .bool b:=by
     obtain⟨⟨L,hI⟩,_⟩:=hJ;have hs:=hI.aV t;rw[hT]at hs;exact hs.bool
    have eR:∀b',T.getD t .dead = .d l0 n0 .bool b'->T.set t (.d l0 n0 .bool b')=T:=λb' hT=>Zl hT (by simp);refine wp_cond hb ?_;cases b with
    | true =>
     simp only[cond_true]at h;rw[eR true hT]at h;exact pI a7 h a w hJ
    | false =>
     simp only[cond_false]at h;rw[eR false hT]at h;exact pI a7 h a w hJ
   ·cases h
  | const _=>simp[aC]at h
  | func _=>simp[aC]at h
  | global _=>simp[aC]at h
 | .block id c,k,T,h,a,w,hJ=>by
  simp only[aC]at h;refine wp_block (wp_mono (pI a7 h a w hJ) ?_)
  rintro e a' w' ⟨ex,T',rfl,hk,eG⟩
  cases ex with
  | bJ=>exact⟨.bJ,T',rfl,hk,eG⟩
  | ext i =>
   dsimp only at hk;simp only[Ex.ex,Exit.inBlock];by_cases hi:i=id
   ·subst hi;rw[if_pos rfl];simp only[beq_self_eq_true,cond_true]at hk;exact⟨.bJ,T',rfl,hk,eG⟩
   ·rw[if_neg hi];have:(i==id)=false:=by simpa using hi
    rw[this]at hk;exact⟨.ext i,T',rfl,hk,eG⟩
  | ret=>exact⟨.ret,T',rfl,hk,eG⟩
 | .loop c,k,T,h,a,w,hJ=>by
  simp only[aC]at h;obtain⟨T1,h1,vG⟩:=CB h hJ;let B:(List V->Option R)->List V->Option R:=λself T=>aC E c (λe T'=>match e with
    | .bJ=>fz (E.aR (gJ c)) T' self
    | .ext i=>k (.ext i) T'
    | .ret=>k .ret T') T
  let I:Nat->Act->World->Prop:=λn a w=>∃T,iQ B n T=some r/\J w0 L0 vs E A0 T a w;have hex:∃n,I n a w:=by
   obtain⟨n,hn⟩:=(oC (ZN k)).1 h1;exact⟨n,T1,hn,vG⟩
  have wg:∀a w,(∃n,I n a w)->∃n,I n a w/\∀m,I m a w->n<=m:=by
   intro a w ⟨n,hn⟩;induction n using Nat.strongRecOn with
   | _ n ih =>
    by_cases hm:∃m,m<n/\I m a w
    ·obtain⟨m,hm,hI⟩:=hm;exact ih m hm hI
    ·refine⟨n,hn,λm hI=>?_⟩;rcases Nat.lt_or_ge m n with h|h
     ·exact absurd ⟨m,h,hI⟩ hm
     ·exact h
  let μ:Act->World->Nat:=λa w=>open Classical in if h:∃n,I n a w then Classical.choose (wg a w h)else 0
  refine wp_loop (λa w=>∃n,I n a w) μ hex (λa w hI=>?_);have hμ:μ a w=Classical.choose (wg a w hI):=dif_pos hI;obtain⟨⟨T2,v7,hJ2⟩,hle⟩:=Classical.choose_spec (wg a w hI);rw[<-hμ]at v7 hle;generalize hn:μ a w=n at v7 hle;cases n with
  | zero=>cases v7
  | succ n =>
   simp only[iQ,B]at v7;refine wp_mono (pI a7 v7 a w hJ2) ?_
   rintro e a' w' ⟨ex,T',rfl,hk,eG⟩
   cases ex with
   | bJ =>
    dsimp only at hk;obtain⟨T3,h3,Vn⟩:=CB hk eG;have iG:∃n,I n a' w':=⟨n,T3,h3,Vn⟩;refine⟨iG,?_⟩;have hμ':μ a' w'=Classical.choose (wg a' w' iG):=dif_pos iG;rw[hμ'];have:=(Classical.choose_spec (wg a' w' iG)).2 n ⟨T3,h3,Vn⟩;omega
   | ext i=>exact⟨.ext i,T',rfl,hk,eG⟩
   | ret=>exact⟨.ret,T',rfl,hk,eG⟩
 | .rangeFunc ..,k,T,h,_,_,_=>by simp[aC]at h
 | .scope _,k,T,h,_,_,_=>by simp[aC]at h
 | .goto _,k,T,h,_,_,_=>by simp[aC]at h
 | .refuse _,k,T,h,_,_,_=>by simp[aC]at h
end
def fY(p:List St):V->(t':Ty)->t'.den->M V
 | .box l n t x,t',y=>(fh p t x t' y).bind λx2=>.ret (.box l n t x2)
 | .d l n t x,t',y=>match p with
  | .idx sz i::p'=>(fh (.idx sz i::p') t x t' y).bind λx2=>.ret (.d l n t x2)
  | _=>.fail
 | _,_,_=>.fail
def Dp(q:List Nat)(o sz:Nat)(z:List Nat):Bool:=match cut q z with
 | some (y::_)=>decide (o<=y)&&decide (y<o+sz)
 | _=>false
def dO(r:Nat)(q:List Nat)(o sz m:Nat)(src:Option Nat):Nat->List Nat->aj:=λs z =>
 if s=r then (if src.isSome&&Dp q o sz z then .other else .own r z)
 else if src=some s then match z with
  | y::rest=>if y<sz then (if rest.length<m then .own r (q++(o+y)::rest)else .aq)else .other
  | []=>.other
 else .own s z
def ca(root:V)(src:Option Nat):V->Bool
 | .ptr _ p _=>src.isNone||(shallow p && !root.dE)
 | .view _ [] _=>root.dE
 | _=>false
section
variable{P:Program}{C:Ctx}{w w' w0:World}{S S':Nat->Prop}{L L' L0:Nat->aj}{s N:Nat}{vs:List Nat}{T T':List V}{tm tm':Array Value}{a:Act}
theorem qF:{p:List St}->{q:List Nat}->{o:Nat}->shallow p=true->(node q o p).1=q
 | [],_,_,_=>rfl
 | .a6 _ _::p,_,_,h=>qF (p:=p) h
 | .idx _ _::_,_,_,h=>by cases h
theorem qN[af]{o sz:Nat}{z:List Nat}:Dp q o sz z=true↔kQ q o sz z:=by
 unfold Dp;constructor
 ·intro h;split at h
  ·rename_i y rest hc;simp only[Bool.and_eq_true,decide_eq_true_eq]at h;refine⟨y - o,rest,by omega,?_⟩;rw[ow hc];congr 2;omega
  ·cases h
 ·rintro⟨d,rest,hd,rfl⟩
  rw[nh];simp;omega
theorem qJ[af]{r:Nat}{o sz:Nat}{src:Option Nat}(bt:src≠some r){s s':Nat}{z z':List Nat}(h:dO r q o sz m src s z = .own s' z'):
  (s=r/\s'=r/\z'=z/\(src.isSome=true->¬kQ q o sz z))\/(src=some s/\s'=r/\∃y rest,z=y::rest/\y<sz/\z'=q++(o+y)::rest)\/(s≠r/\src≠some s/\s'=s/\z'=z):=by
 unfold dO at h;split at h
 ·rename_i hs;split at h
  ·cases h
  ·rename_i hc;injection h with h1 h2;refine .inl ⟨hs,h1.symm,h2.symm,λhi hu=>hc ?_⟩;rw[hi,qN.2 hu];rfl
 ·split at h
  ·split at h
   ·split at h
    ·split at h
     ·injection h with h1 h2;exact .inr (.inl ⟨by assumption,h1.symm,_,_,rfl,by assumption,h2.symm⟩)
     ·cases h
    ·cases h
   ·cases h
  ·injection h with h1 h2;exact .inr (.inr ⟨by assumption,by assumption,h1.symm,h2.symm⟩)
theorem Zq[af]{r:Nat}{o sz:Nat}{src:Option Nat}(bt:src≠some r){X:Nat->Prop}(IS:X r)(iI:∀s,src=some s->X s):fF (dO r q o sz m src) X:=by
 refine⟨λs z hX=>?_,λs z s' z' hX h=>?_,λs z s2 z2 s' z' h1 h2=>?_,λs z=>?_⟩
 ·unfold dO;rw[if_neg (λe:s=r=>hX (e▸IS)),if_neg (λe=>hX (iI s e))]
 ·rcases qJ bt h with⟨_,rfl,_⟩|⟨_,rfl,_⟩|⟨_,_,rfl,_⟩
  ·exact IS
  ·exact IS
  ·exact hX
 ·rcases qJ bt h1 with⟨rfl,rfl,rfl,hu⟩|⟨e1,rfl,y,rest,rfl,hy,rfl⟩|⟨e1,e2,rfl,rfl⟩
  ·rcases qJ bt h2 with⟨rfl,_,h4,_⟩|⟨e1,_,y,rest,rfl,hy,he⟩|⟨e1,e2,h3,h4⟩
   ·exact⟨rfl,h4⟩
   ·exact absurd ⟨y,rest,hy,he⟩ (hu (by rw[e1];rfl))
   ·exact absurd h3.symm e1
  ·rcases qJ bt h2 with⟨rfl,_,h4,hu⟩|⟨e2,_,y2,KL,rfl,sU,he⟩|⟨e2,e3,h3,h4⟩
   ·exact absurd ⟨y,rest,hy,h4.symm⟩ (hu (by rw[e1];rfl))
   ·have he:=List.append_cancel_left he;injection he with nv lW;rw[e1]at e2;injection e2 with e2;exact⟨e2,by rw[show y=y2 by omega,lW]⟩
   ·exact absurd h3.symm e2
  ·rcases qJ bt h2 with⟨h3,h5,_⟩|⟨e3,h5,_⟩|⟨e3,e4,h3,h4⟩
   ·exact absurd h5 e1
   ·exact absurd h5 e1
   ·exact⟨h3,h4⟩
 ·unfold dO
  repeat' split
  all_goals simp
theorem Ke{u:V}{y:t'.den}(h:(fY p u t' y).ai T u' log):u'.root=u.root/\u'.aL=u.aL/\u'.deep=u.deep/\u'.dE=u.dE:=by
 cases u with
 | box l n t x =>
  obtain⟨x2,l1,l2,rfl,h1,h2⟩:=M.an h;obtain⟨rfl,_⟩:=h2;exact⟨rfl,rfl,rfl,rfl⟩
 | d l n t x =>
  simp only[fY]at h;split at h
  ·obtain⟨x2,l1,l2,rfl,h1,h2⟩:=M.an h;obtain⟨rfl,_⟩:=h2;exact⟨rfl,rfl,rfl,rfl⟩
  ·exact h.elim
 | dead=>exact h.elim
 | bF _=>exact h.elim
 | rp _ _ _=>exact h.elim
 | ptr _ _ _=>exact h.elim
 | view _ _ _=>exact h.elim
 | hole _ _=>exact h.elim
 | part _ _ _ _ _=>exact h.elim
 | bO _ _ _ _=>exact h.elim
 | same _ _=>exact h.elim
theorem Yn{l:Option Nat}{n:Nat}{x:t.den}{y:t'.den}(h:(fY p (.d l n t x) t' y).ai T u' log):∃x2,u' = .d l n t x2:=by
 simp only[fY]at h;split at h
 ·obtain⟨x2,l1,l2,rfl,h1,h2⟩:=M.an h;obtain⟨rfl,_⟩:=h2;exact⟨x2,rfl⟩
 ·exact h.elim
theorem Kd{T1 T2:List V}{tm1 tm2:Array Value}{p:List St}{u:V}{l:Option Nat}{n':Nat}{x' y:t'.den}{log2:List Nat}{r g':Nat}{cur cur':Array Value}{e':TypeId}{c:Value}
  (hs:aB L T1 tm1 r u w c) (hz:(dG p u).ai T (l,⟨n',t',x'⟩) log) (hm:(fY p u t' y).ai T u' log2) (cD:∀r',u.root=some r'->(T2.getD r' .dead).deep=true)
  (hu:Bz w w' L L' (SL L u.root) (SL L' u.root) r (node [] 0 p).1 (node [] 0 p).2 t'.sz g' cur cur' e')
  (hy:Own w' L' (SL L' u.root) r n' t' y (node [] 0 p).1 (node [] 0 p).2 ((cur'.toList.drop (node [] 0 p).2).take t'.sz)):aB L' T2 tm2 r u' w' c:=by
 cases u with
 | box l0 n t x =>
  obtain⟨zz,l1,l2,rfl,h1,h2⟩:=M.an hz;obtain⟨h2,_⟩:=h2;cases h2;obtain⟨x2,l3,l4,rfl,h3,h4⟩:=M.an hm;obtain⟨rfl,_⟩:=h4;obtain⟨h0,g,ahV,e,k1,k2,k3,k4,k5⟩:=hs;obtain⟨e9,j1,j2,j3,j4,j5⟩:=CO (q:=[]) (o:=0) (g1:=g) (cur1:=ahV) (e1:=e) hu hy rfl k2 k3 (by omega) (by
   rw[List.drop_zero,List.take_of_length_le (by rw[<-k4];simp)];exact k5) h1 h3
  refine⟨λr' aW=>cD r' aW,g,e9,e,k1,j2,j1,by rw[j3];exact k4,?_⟩;rw[List.drop_zero,List.take_of_length_le (by rw[<-k4,<-j3];simp)]at j5;exact j5
 | d l0 n t x =>
  simp only[dG]at hz;split at hz
  ·rename_i sz i p';obtain⟨zz,l1,l2,rfl,h1,h2⟩:=M.an hz;obtain⟨h2,_⟩:=h2;cases h2;simp only[fY]at hm;obtain⟨x2,l3,l4,rfl,h3,h4⟩:=M.an hm;obtain⟨rfl,_⟩:=h4;obtain⟨h0,cs,k1,k2⟩:=hs;cases t<;>cases n<;>simp only[aP]at h1<;>try exact h1.elim
   rename_i e t n;split at h1
   ·rename_i bp;subst bp;obtain⟨y0,jy,h1⟩:=h1;simp only[fh,if_true]at h3;obtain⟨y9,wK,h3⟩:=h3;obtain rfl:y0=y9:=by rw[jy]at wK;exact Option.some.inj wK
    obtain⟨z2,l5,l6,rfl,h5,h6⟩:=M.an h3;obtain⟨w9,qe,rfl,_⟩:=h6;injection qe with qe;subst qe;obtain⟨hi,jY,rfl⟩:=lT jy;simp only[Own]at k2;rcases k2 with⟨_,rfl⟩|⟨g2,cap,e9,de,hL,hg,m1,m2,m3,m4⟩
    ·exact absurd hi (by simp)
    ·have hb:i.toNat*t.sz+t.sz<=e9.size:=by
      rw[m3]
      calc i.toNat*t.sz+t.sz=(i.toNat+1)*t.sz:=by rw[Nat.add_mul,Nat.one_mul]
       _<=cap*t.sz:=Nat.mul_le_mul_right _ (by omega)
     have hL2:L g2 = .own r ([]++[0]):=hL;obtain⟨BH,j1,j2,j3,j4,j5⟩:=CO hu hy (p:=p') (q:=[]++[0]) (o:=i.toNat*t.sz) (g1:=g2) (cur1:=e9) (e1:=e) rfl hL2 hg hb (m4 _ hi) h1 h5;have mh:Reach ([]++[0]) (i.toNat*t.sz) t.sz (node [] 0 (St.idx t.sz i::p')).1 (node [] 0 (St.idx t.sz i::p')).2 t'.sz:=sv (q:=[]++[0]) (o:=i.toNat*t.sz) h1;refine⟨λr' aW=>cD r' aW,cs,k1,?_⟩;simp only[Own];refine .inr ⟨g2,cap,BH,by rw[de];simp,j2,j1,by simpa using m1,m2,by rw[j3];exact m3,λj hj=>?_⟩;simp only[List.length_set]at hj;by_cases cO:j=i.toNat
     ·subst cO;have:(x.set i.toNat z2)[i.toNat]'(by simpa using hi)=z2:=List.getElem_set_self _;rw[this];exact j5
     ·have he:(x.set i.toNat z2)[j]'(by simpa using hj)=x[j]:=List.getElem_set_ne (λe=>cO e.symm) _;rw[he];have hd:(j*t.sz+t.sz<=i.toNat*t.sz)\/(i.toNat*t.sz+t.sz<=j*t.sz):=by
       rcases Nat.lt_or_gt_of_ne cO with h|h
       ·left
        calc j*t.sz+t.sz=(j+1)*t.sz:=by rw[Nat.add_mul,Nat.one_mul]
         _<=i.toNat*t.sz:=Nat.mul_le_mul_right _ h
       ·right
        calc i.toNat*t.sz+t.sz=(i.toNat+1)*t.sz:=by rw[Nat.add_mul,Nat.one_mul]
         _<=j*t.sz:=Nat.mul_le_mul_right _ h
      rw[tJ (cur:=e9) (λi' h1 h2=>j4 i' (by omega))];exact Own.tD hu mh (by omega) (m4 j hj)
   ·exact h1.elim
  ·exact hz.elim
 | dead=>exact hz.elim
 | bF _=>exact hz.elim
 | rp _ _ _=>exact hz.elim
 | ptr _ _ _=>exact hz.elim
 | view _ _ _=>exact hz.elim
 | hole _ _=>exact hz.elim
 | part _ _ _ _ _=>exact hz.elim
 | bO _ _ _ _=>exact hm.elim
 | same _ _=>exact hz.elim
def putCells(cur:Array Value)(o:Nat)(cs:List Value):Array Value:=(cur.toList.take o++cs++cur.toList.drop (o+cs.length)).toArray
theorem C6{cur:Array Value}{o:Nat}{cs:List Value}(h:o+cs.length<=cur.size):(putCells cur o cs).size=cur.size:=by
 simp[putCells];omega
theorem C4{cur:Array Value}{o:Nat}{cs:List Value}(h:o+cs.length<=cur.size):((putCells cur o cs).toList.drop o).take cs.length=cs:=by
 have:(cur.toList.take o).length=o:=by simp;omega
 simp only[putCells,List.append_assoc];rw[List.drop_left' this,List.take_left' rfl]
theorem C5{cur:Array Value}{o:Nat}{cs:List Value}(h:o+cs.length<=cur.size)(i:Nat)(hi:i<o\/o+cs.length<=i):(putCells cur o cs)[i]?=cur[i]?:=by
 have hl:(cur.toList.take o).length=o:=by simp;omega
 simp only[putCells,List.getElem?_toArray];rcases hi with hi|hi
 ·rw[List.append_assoc,List.getElem?_append_left (by omega),List.getElem?_take_of_lt hi];simp
 ·rw[List.getElem?_append_right (by simp;omega),List.getElem?_drop];simp only[List.length_append,hl];rw[show o+cs.length+(i - (o+cs.length))=i by omega];simp
theorem Inv.store[af](hI:Inv w0 L0 N vs T a w L){r:Nat}{u:V}{l:Option Nat}{n' m:Nat}{x' y:t'.den}{log2:List Nat}{src:Option Nat}{g':Nat}{cur:Array Value}{e:TypeId}{cs:List Value}
  (hr:T.getD r .dead=u) (hz:(dG p u).ai T (l,⟨n',t',x'⟩) log) (hm:(fY p u t' y).ai T u' log2) (mn:u.root≠some r)
  (hg:L g' = .own r (node [] 0 p).1) (hh:w.heap[g']?=some (.cells cur e (0,0))) (bp:(node [] 0 p).2+t'.sz<=cur.size) (hlen:cs.length=t'.sz)
  (cW:∀s,src=some s->s≠r/\s∉vs/\T'.getD s .dead = .dead/\(T.getD s .dead).root=none) (kY:T'.length=N) (bE:T'.getD r .dead=u')
  (hT:∀s,s≠r->src≠some s->(T.getD s .dead).on r=true->(T'.getD s .dead = .dead/\(T.getD s .dead).aL=false)\/(T'.getD s .dead=T.getD s .dead/\(ca u src (T.getD s .dead)=true\/(src=none/\shallow p=false/\u.dE=false/\∃p2 t2,T.getD s .dead = .view r p2 t2/\(node [] 0 p2).1≠(node [] 0 p).1))))
  (iH:∀s,s≠r->src≠some s->(T.getD s .dead).on r=false->T'.getD s .dead=T.getD s .dead)
  (hy:Own (w.setRow g' (putCells cur (node [] 0 p).2 cs)) (aS (dO r (node [] 0 p).1 (node [] 0 p).2 t'.sz m src) w L (λ_=>.free)) (SL (aS (dO r (node [] 0 p).1 (node [] 0 p).2 t'.sz m src) w L (λ_=>.free)) u.root) r n' t' y (node [] 0 p).1 (node [] 0 p).2 cs) :
  Inv w0 L0 N vs T' a (w.setRow g' (putCells cur (node [] 0 p).2 cs)) (aS (dO r (node [] 0 p).1 (node [] 0 p).2 t'.sz m src) w L (λ_=>.free)):=by
 obtain⟨mj,wv,vO,Ci⟩:=Ke hm;have bt:src≠some r:=λe=>(cW r e).1 rfl;have bb:=hI.aV r;rw[hr]at bb;obtain⟨_,sN,_,ik,lZ⟩:=lq hz bb;have hl:u.root=l:=by
  cases u with
  | box l0 n t x =>
   obtain⟨zz,l1,l2,rfl,h1,h2⟩:=M.an hz;obtain⟨h2,_⟩:=h2;cases h2;rfl
  | d l0 n t x =>
   simp only[dG]at hz;split at hz
   ·obtain⟨zz,l1,l2,rfl,h1,h2⟩:=M.an hz;obtain⟨h2,_⟩:=h2;cases h2;rfl
   ·exact hz.elim
  | dead=>exact hz.elim
  | bF _=>exact hz.elim
  | rp _ _ _=>exact hz.elim
  | ptr _ _ _=>exact hz.elim
  | view _ _ _=>exact hz.elim
  | hole _ _=>exact hz.elim
  | part _ _ _ _ _=>exact hz.elim
  | bO _ _ _ _=>exact (Kp hz bb).2.1.symm
  | same _ _=>exact hz.elim
 let X:Nat->Prop:=λs=>s=r\/src=some s\/(T.getD s .dead).on r=true;have jX:fF (dO r (node [] 0 p).1 (node [] 0 p).2 t'.sz m src) X:=Zq bt (.inl rfl) (λs h=>.inr (.inl h));have lg:∀k,k≠g'->(w.setRow g' (putCells cur (node [] 0 p).2 cs)).heap[k]?=w.heap[k]?:=λk hk=>setRow_other w g' k _ hk;have JA:Wd w (w.setRow g' (putCells cur (node [] 0 p).2 cs)) L (λ_=>.free) X:=by
  refine⟨rfl,rfl,rfl,by simp[World.setRow],Nat.le_refl _,λk hk hx=>lg k ?_,λ_ _=>rfl,λ_ _ _ _ h=>by cases h⟩
  rintro rfl
  exact hx r _ hg (.inl rfl)
 have sM:∀r',u.root=some r'->¬X r':=by
  intro r' aW hx;have hd:(T.getD r' .dead).deep=true:=sN r' (by rw[<-hl];exact aW);have ho:=V.fj hd;rcases hx with rfl|hx|hx
  ·exact mn aW
  ·have:=hI.roots r r' (by rw[hr];simp[V.on,aW]);exact (cW r' hx).2.1 this
  ·by_cases gm:r'=r
   ·exact mn (by rw[<-gm];exact aW)
   ·by_cases bM:src=some r'
    ·exact (cW r' bM).2.1 (hI.roots r r' (by rw[hr];simp[V.on,aW]))
    ·rcases hT r' gm bM hx with⟨_,h⟩|⟨_,h|⟨_,_,_,p2,t2,h,_⟩⟩
     ·rw[h]at ho;cases ho
     ·generalize T.getD r' .dead=v at h ho;cases v<;>simp[ca]at h<;>simp[V.aL]at ho
     ·rw[h]at ho;cases ho
 have V8:∀s,¬X s->T'.getD s .dead=T.getD s .dead:=by
  intro s hs;have hs:=not_or.1 hs;have ed:=not_or.1 hs.2;exact iH s hs.1 ed.1 (by simpa using ed.2)
 refine Inv.gP (X:=X) hI jX JA (λ_ _ _ _ _ h=>by cases h) hI.size kY hI.dP ?_ ?_ (λs hs=>⟨V8 s hs,rfl⟩) ?_ ?_
 ·
  intro k s q hX h;by_cases hs:s=r
  ·subst hs;rw[bE,wv];exact ik
  ·unfold aS at h;split at h
   ·obtain⟨s0,q0,e0,f0⟩:=eV h;rcases qJ bt f0 with⟨_,rfl,_⟩|⟨_,rfl,_⟩|⟨h1,h2,rfl,rfl⟩
    ·exact absurd rfl hs
    ·exact absurd rfl hs
    ·have ho:=hI.owner k s q e0;rcases hX with h3|h3|h3
     ·exact absurd h3 hs
     ·exact absurd h3 h2
     ·rcases hT s hs h2 h3 with⟨_,h⟩|⟨h4,_⟩
      ·rw[h]at ho;cases ho
      ·rw[h4];exact ho
   ·cases h
 ·intro s r' hs ag aW;rcases aW with rfl|aW|aW
  ·exact absurd (.inr (.inr ag)) hs
  ·exact absurd (hI.roots s r' ag) (cW r' aW).2.1
  ·by_cases gm:r'=r
   ·subst gm;exact absurd (.inr (.inr ag)) hs
   ·by_cases bM:src=some r'
    ·exact absurd (hI.roots s r' ag) (cW r' bM).2.1
    ·rcases hT r' gm bM aW with⟨_,h⟩|⟨_,h|⟨_,_,_,p2,t2,h,_⟩⟩
     ·exact h
     ·generalize T.getD r' .dead=v at h;cases v<;>simp[ca]at h<;>simp[V.aL]
     ·rw[h];rfl
 ·intro s r' hX ag;by_cases hs:s=r
  ·subst hs;rw[bE]at ag;refine hI.roots s r' ?_;rw[hr];simpa[V.on,mj]using ag
  ·by_cases bM:src=some s
   ·rw[(cW s bM).2.2.1]at ag;simp[V.on,V.root]at ag
   ·cases ho:(T.getD s .dead).on r with
    | false =>
     rw[iH s hs bM ho]at ag;exact hI.roots s r' ag
    | true =>
     rcases hT s hs bM ho with⟨h,_⟩|⟨h,_⟩
     ·rw[h]at ag;simp[V.on,V.root]at ag
     ·rw[h]at ag;exact hI.roots s r' ag
 ·intro s hX;have gH:aS (dO r (node [] 0 p).1 (node [] 0 p).2 t'.sz m src) w L (λ_=>.free) g' = .own r (node [] 0 p).1:=by
   rw[cX hI (by rw[hg];simp),hg];simp only[eN,dO];rw[if_pos trivial,if_neg];intro h;simp only[Bool.and_eq_true]at h;obtain⟨d,rest,_,h⟩:=qN.1 h.2;have:=congrArg List.length h;simp at this
  have V7:∀k q,src=none->L k = .own r q->aS (dO r (node [] 0 p).1 (node [] 0 p).2 t'.sz m src) w L (λ_=>.free) k = .own r q:=by
   intro k q hn hk;rw[cX hI (by rw[hk];simp),hk];simp[eN,dO,hn]
  by_cases hs:s=r
  ·subst hs;rw[bE];have pS:((putCells cur (node [] 0 p).2 cs).toList.drop (node [] 0 p).2).take t'.sz=cs:=by
    have:=C4 (cur:=cur) (o:=(node [] 0 p).2) (cs:=cs) (by omega)
    rwa [hlen]at this
   refine Kd (cur:=cur) (e':=e) (g':=g') (cur':=putCells cur (node [] 0 p).2 cs) bb hz hm (λr' aW=>?_) ?_ (by rw[pS];exact hy)
   ·rw[V8 r' (sM r' aW)];exact sN r' (by rw[<-hl];exact aW)
   ·refine⟨λk hk=>?_,λk q2 hk hq hu=>?_,hg,gH,hh,setRow_heap w g' cur _ e _ hh,C6 (by omega),λi hi=>C5 (by omega) i (by omega),λk hk=>hI.inj k g' s _ hk hg⟩
    ·rcases hk with hk|⟨r',q,aW,hk⟩
     ·exact⟨.inl (ez hI hk),lg k (by rintro rfl;rw[hg]at hk;cases hk)⟩
     ·refine⟨.inr ⟨r',q,aW,w7 hI jX hk (sM r' aW)⟩,lg k ?_⟩
      rintro rfl
      rw[hg]at hk;injection hk with hk _;exact sM r' aW (.inl hk.symm)
    ·refine⟨?_,lg k ?_⟩
     ·rw[cX hI (by rw[hk];simp),hk];simp only[eN,dO];rw[if_pos trivial,if_neg];intro h;simp only[Bool.and_eq_true]at h;exact hu (qN.1 h.2)
     ·rintro rfl
      rw[hg]at hk;injection hk with _ hk;exact hq hk.symm
  ·by_cases bM:src=some s
   ·rw[(cW s bM).2.2.1];trivial
   ·have ho:(T.getD s .dead).on r=true:=by
     rcases hX with h|h|h
     ·exact absurd h hs
     ·exact absurd h bM
     ·exact h
    rcases hT s hs bM ho with⟨h,_⟩|⟨h,hk|⟨iM,We,nL,p2,t2,cP,ey⟩⟩
    ·rw[h];trivial
    rotate_left
    ·rw[h];have sT:=hI.aV s;rw[cP]at sT ⊢;obtain⟨hd,h1⟩:=sT;refine⟨by rw[bE,vO];rw[hr]at hd;exact hd,.inr ?_⟩;rcases h1 with⟨_,_,l1,n1,x1,h2,_⟩|⟨g,cur1,e1,h1,h2,h3,h4,h5⟩
     ·rw[hr]at h2;rw[h2]at nL;cases nL
     ·have hgn:g≠g':=by
       rintro rfl
       rw[h2]at hg;injection hg with _ hg;exact ey hg
      exact⟨g,cur1,e1,by rw[bE,Ci,nL];exact .inl rfl,V7 g _ iM h2,by rw[lg g hgn];exact h3,h4,h5⟩
    ·rw[h];have sT:=hI.aV s;generalize hv:T.getD s .dead=v at hk ho sT;cases v with
     | ptr r2 p2 t2 =>
      obtain⟨g,h1,h2⟩:=sT;have mi:r2=r:=by simpa[V.on,V.root]using ho
      subst mi;refine⟨g,h1,?_⟩;have hk:src.isNone=true\/shallow p2=true:=by
       simp only[ca,Bool.or_eq_true,Bool.and_eq_true]at hk;exact hk.imp id And.left
      rcases hk with hk|hk
      ·exact V7 g _ (by simpa using hk) h2
      ·rw[qF hk]at h2 ⊢;rw[cX hI (by rw[h2];simp),h2];simp only[eN,dO];rw[if_pos trivial,if_neg];intro h;simp only[Bool.and_eq_true]at h;obtain⟨d,rest,_,h⟩:=qN.1 h.2;have:=congrArg List.length h;simp at this
     | view r2 p2 t2 =>
      have mi:r2=r:=by simpa[V.on,V.root]using ho
      subst mi;cases p2 with
      | cons _ _=>simp[ca]at hk
      | nil =>
       obtain⟨hd,h1⟩:=sT;refine⟨by rw[bE,vO];rw[hr]at hd;exact hd,.inl ⟨rfl,?_,?_⟩⟩
       ·rcases h1 with⟨_,h2,_⟩|⟨_,_,_,h2,_⟩
        ·exact h2
        ·rw[hr]at h2;simp only[ca]at hk;rw[hk]at h2;simp at h2
       ·rcases h1 with⟨_,_,l1,n1,x1,h2,h3⟩|⟨_,_,_,h2,_⟩
        ·rw[hr]at h2;rw[bE];subst h2;obtain⟨x2,rfl⟩:=Yn hm;exact⟨_,_,_,rfl,h3⟩
        ·rw[hr]at h2;simp only[ca]at hk;rw[hk]at h2;simp at h2
     | dead=>simp[ca]at hk
     | bF _=>simp[ca]at hk
     | d _ _ _ _=>simp[ca]at hk
     | box _ _ _ _=>simp[ca]at hk
     | rp _ _ _=>simp[ca]at hk
     | hole _ _=>simp[ca]at hk
     | part _ _ _ _ _=>simp[ca]at hk
     | bO _ _ _ _=>simp[ca]at hk
     | same _ _=>simp[ca]at hk
end
end Go.Proofs.YtbhogmdpmkpinaaGreat.P.Am
