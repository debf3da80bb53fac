/-
Contracts of 'alikeTerm','alike','Alpha' of package subst.
-/
import Derived.Test.YtokemihbkeddoaaGreatDoorU19
namespace Go.Proofs.YtokemihbkeddoaaGreatDoor
open Go Go.RowKit Lib
set_option maxRecDepth 100000
set_option maxHeartbeats 64000000
variable {left:Int} {n d lo:Nat} {v:Value} {o oj:Oper} {Wb W:World} {jf:Array TypeId} {ty:TypeId} {pos:String} {cU:Array Edge} {ts:List Fm}
theorem Cb {l:List Tm} (h:ep l=true) {t:Tm} (ht:t∈l):lV t=true:=by
 induction l with
 | nil=>cases ht
 | cons u l ih=>
  simp only[ep,af]at h;rcases cd.1 ht with rfl | ht
  ·exact h.1
  ·exact ih h.2 ht
theorem IZ {l:List Fm} (h:el l=true) {t:Fm} (ht:t∈l):gS t=true:=by
 induction l with
 | nil=>cases ht
 | cons u l ih=>
  simp only[el,af]at h;rcases cd.1 ht with rfl | ht
  ·exact h.1
  ·exact ih h.2 ht
def zdR (t:Tm):Prop:=∀ (u:Tm) (ps:List (Str×Str)) (v:Value) (ok ok':Nat->Prop) (w:World) (q q':TQ),ps.length<=1000000000->fitT t->lV t=true->TermV ok w q.val t->TermV ok' w q'.val u->PairsV w v ps →
 Calls Tryz.prog 147 #[q.val,q'.val,v] w fun e w'=>e=.returned (.bool (eU ps.reverse t u))/\Below w.heap.size w w'
theorem I0:∀ t,zdR t:=by
 intro t
 induction t using Tm.ind with
 | h xv xn xa ih=>
 intro u ps v ok ok' w q q' gX hf zA hq ip hp;exact pm136
theorem N0:(Tryz.prog.info? 196).map (fun i=>(i.zero,i.size,i.bytes))=some (some (.agg #[.string ByteArray.empty,.string ByteArray.empty]),2,32):=by kernel_rfl
def zdT (t:Fm):Prop:=∀ (u:Fm) (ps:List (Str×Str)) (v:Value) (ok ok':Nat->Prop) (w:World) (q q':FQ),ps.length+eq t<=1000000000->fitF t->gS t=true->FormV ok w q.val t->FormV ok' w q'.val u->PairsV w v ps →
 Calls Tryz.prog 83 #[q.val,q'.val,v] w fun e w'=>e=.returned (.bool (cP ps.reverse t u))/\Below w.heap.size w w'
theorem Rw:∀ t,zdT t:=by
 obtain ⟨i0,hi,oM,ju,iy⟩:=info_parts N0;intro t
 induction t using Fm.ind with
 | h uo xn xa xs ih=>
 intro u ps v ok ok' w q q' gX hf zA hq ip hp;exact pm77
def Cc (f g:Fm):Bool:=cf f && (cf g && cP [] f g)
theorem N1 (W0:World) (f g:Fm) (hf:fitF f) (hg:fitF g) (ok ok':Nat->Prop) (w:World) (ht:Tabs W0 w) (q q':FQ) (hq:FormV ok w q.val f) (ip:FormV ok' w q'.val g) :
  Calls Tryz.prog 38 #[q.val,q'.val] w fun e w'=>e=.returned (.bool (Cc f g))/\Below w.heap.size w w':=by
 obtain ⟨W2,a_⟩:=am ((w.alloc (.cells #[.int .u8 q.o,.string q.n,.slice q.a q.l q.c,.slice q.b q.m q.e] 36)).alloc (.cells #[.int .u8 q'.o,.string q'.n,.slice q'.a q'.l q'.c,.slice q'.b q'.m q'.e] 36));have hB:=lv a_;have HX:Hd (W2.heap[w.heap.size]?=some (.cells #[.int .u8 q.o,.string q.n,.slice q.a q.l q.c,.slice q.b q.m q.e] 36 (0,0))):=ac (by rw[a_];exact (bE _ _ _ (by simp)).trans (ai rfl));have HY:Hd (W2.heap[w.heap.size+1]?=some (.cells #[.int .u8 q'.o,.string q'.n,.slice q'.a q'.l q'.c,.slice q'.b q'.m q'.e] 36 (0,0))):=ac (by rw[a_];exact ai (by simp));have C1:=oB W0 f hf _ W2 (ht.next hB) q (hq.later hB);have C2:=fun (W:World) (h:Below W2.heap.size W2 W)=>oB W0 g hg _ W ((ht.next hB).next h) q' ((ip.later hB).later h);have C3:=fun (hr:cf f=true) (W:World) (h:Below W2.heap.size W2 W)=>Rw f g [] (.slice none 0 0) _ _ W q q' (by have:=hf.1;simp[eq];omega) hf (nI f (by simp only[cf,af]at hr;exact hr.1)) ((hq.later hB).later h) ((ip.later hB).later h) (PairsV.nil W);obtain ⟨b1,hb1⟩:=am (cf f);obtain ⟨b2,bB⟩:=am (cf g);obtain ⟨b3,aM⟩:=am (cP [] f g);unfold Cc;simp only[List.reverse_nil]at C3;rw[<-hb1]at C1 C3 ⊢;rw[<-bB]at C2 ⊢;rw[<-aM]at C3 ⊢;clear hb1 bB aM hq ip hf hg ht;obtain ⟨uo,un,ua,ul,uc,ub,um,ue⟩:=q;obtain ⟨vo,vn,va,vl,vc,vb,vm,ve⟩:=q';unfold FQ.val at C1 C2 C3 ⊢;simp only at C1 C2 C3 HX HY a_ ⊢;have x0:=fun (X:World) (h:Below W2.heap.size W2 X)=>(aa h (ah HX.o 0):X.cell? ⟨w.heap.size,0,none⟩=some (.int .u8 uo))
 have x1:=fun (X:World) (h:Below W2.heap.size W2 X)=>(aa h (ah HX.o 1):X.cell? ⟨w.heap.size,1,none⟩=some (.string un))
 have x2:=fun (X:World) (h:Below W2.heap.size W2 X)=>(aa h (ah HX.o 2):X.cell? ⟨w.heap.size,2,none⟩=some (.slice ua ul uc))
 have x3:=fun (X:World) (h:Below W2.heap.size W2 X)=>(aa h (ah HX.o 3):X.cell? ⟨w.heap.size,3,none⟩=some (.slice ub um ue))
 have y0:=fun (X:World) (h:Below W2.heap.size W2 X)=>(aa h (ah HY.o 0):X.cell? ⟨w.heap.size+1,0,none⟩=some (.int .u8 vo))
 have y1:=fun (X:World) (h:Below W2.heap.size W2 X)=>(aa h (ah HY.o 1):X.cell? ⟨w.heap.size+1,1,none⟩=some (.string vn))
 have y2:=fun (X:World) (h:Below W2.heap.size W2 X)=>(aa h (ah HY.o 2):X.cell? ⟨w.heap.size+1,2,none⟩=some (.slice va vl vc))
 have y3:=fun (X:World) (h:Below W2.heap.size W2 X)=>(aa h (ah HY.o 3):X.cell? ⟨w.heap.size+1,3,none⟩=some (.slice vb vm ve))
 have Jh:=fE (an4 x0 x1 x2 x3) y0 y1 y2 y3;obtain ⟨HB,zs,zw,HC3,fp⟩:=t5 hB C1 C2 C3 a_;clear C1 C2 C3 hB a_ x0 x1 x2 x3 y0 y1 y2 y3;go_enter Tryz.func38,Tryz.ntmps38;cases b1
 ·go_wp2_with (rw[<-fp.o];go_at_call 39;refine zs.o.mono ?_;rintro e X1 ⟨rfl,h1⟩;have H1:=ac h1;clear h1);go_ret;exact ⟨rfl,HB.o.trans (H1.o.mono HB.o.size)⟩
 ·cases b2
  ·go_wp2_with (first | (rw[<-fp.o];go_at_call 39;refine zs.o.mono ?_;rintro e X1 ⟨rfl,h1⟩;have H1:=ac h1;clear h1;have a0:=Jh.o.2.1 X1 H1.o;have a1:=Jh.o.2.2.1 X1 H1.o;have a2:=Jh.o.2.2.2.1 X1 H1.o;have a3:=Jh.o.2.2.2.2 X1 H1.o) | (go_at_call 39;refine (zw.o _ H1.o).mono ?_;rintro e X2 ⟨rfl,h2⟩;have H2:=ac h2;clear h2));go_ret;exact ⟨rfl,HB.o.trans ((H1.o.trans (H2.o.mono H1.o.size)).mono HB.o.size)⟩
  ·cases b3 <;>
   (go_wp2_with (first | (rw[<-fp.o];go_at_call 39;refine zs.o.mono ?_;rintro e X1 ⟨rfl,h1⟩;have H1:=ac h1;clear h1;have a0:=Jh.o.2.1 X1 H1.o;have a1:=Jh.o.2.2.1 X1 H1.o;have a2:=Jh.o.2.2.2.1 X1 H1.o;have a3:=Jh.o.2.2.2.2 X1 H1.o) | (go_at_call 39;refine (zw.o _ H1.o).mono ?_;rintro e X2 ⟨rfl,h2⟩;have H2:=ac (H1.o.trans (h2.mono H1.o.size));clear h2;have c0:=Jh.o.1.1 X2 H2.o;have c1:=Jh.o.1.2.1 X2 H2.o;have c2:=Jh.o.1.2.2.1 X2 H2.o;have c3:=Jh.o.1.2.2.2 X2 H2.o;have d0:=Jh.o.2.1 X2 H2.o;have d1:=Jh.o.2.2.1 X2 H2.o;have d2:=Jh.o.2.2.2.1 X2 H2.o;have d3:=Jh.o.2.2.2.2 X2 H2.o) | (go_at_call 83;refine (HC3.o (by simp) _ H2.o).mono ?_;rintro e X3 ⟨rfl,h3⟩;have H3:=ac h3;clear h3))
    go_ret;exact ⟨rfl,HB.o.trans ((H2.o.trans (H3.o.mono H2.o.size)).mono HB.o.size)⟩)
mutual
def Vx:Tm->Nat | .mk _ n a=>1+n.length / 40+vW a
def vW:List Tm->Nat | []=>0 | t :: l=>Vx t+vW l
end
mutual
def R_:Fm->Nat | .mk _ n a s=>1+n.length / 40+vW a+vX s
def vX:List Fm->Nat | []=>0 | t :: l=>R_ t+vX l
end
mutual
theorem YF (p:Nat):∀ t,j5 p t=true->Vx t<=nodesT t * (1+p / 40)
 | .mk v n a,h=>by
  simp only[j5,af,bp]at h;have h1:=zM p a h.2;have h2:n.length / 40<=p / 40:=Nat.div_le_div_right h.1;have e:(nodesTs a+1) * (1+p / 40)=nodesTs a * (1+p / 40)+(1+p / 40):=by rw[Nat.add_mul,Nat.one_mul]
  unfold Vx nodesT;omega
theorem zM (p:Nat):∀ l,nmTs p l=true->vW l<=nodesTs l * (1+p / 40)
 | [],_=>by simp[vW]
 | t :: l,h=>by
  simp only[nmTs,af]at h;have h1:=YF p t h.1;have h2:=zM p l h.2;have e:(nodesT t+nodesTs l) * (1+p / 40)=nodesT t * (1+p / 40)+nodesTs l * (1+p / 40):=Nat.add_mul _ _ _;unfold vW nodesTs;omega
end
mutual
theorem Rx (p:Nat):∀ t,ls p t=true->R_ t<=nodesF t * (1+p / 40)
 | .mk o n a s,h=>by
  simp only[ls,af,bp]at h;have h1:=zM p a h.2.2.1;have h3:=Gf p s h.2.2.2;have h2:n.length / 40<=p / 40:=Nat.div_le_div_right h.2.1;have e:(nodesTs a+nodesFs s+1) * (1+p / 40)=nodesTs a * (1+p / 40)+nodesFs s * (1+p / 40)+(1+p / 40):=by rw[Nat.add_mul,Nat.add_mul,Nat.one_mul]
  unfold R_ nodesF;omega
theorem Gf (p:Nat):∀ l,nmFs p l=true->vX l<=nodesFs l * (1+p / 40)
 | [],_=>by simp[vX]
 | t :: l,h=>by
  simp only[nmFs,af]at h;have h1:=Rx p t h.1;have h2:=Gf p l h.2;have e:(nodesF t+nodesFs l) * (1+p / 40)=nodesF t * (1+p / 40)+nodesFs l * (1+p / 40):=Nat.add_mul _ _ _;unfold vX nodesFs;omega
end
theorem fitTs.sz {l:List Tm} (h:fitTs l):vW l<=100002000000:=aU (zM _ l h.2) (by have:=h.1;omega)
theorem fitFs.sz {l:List Fm} (h:fitFs l):vX l<=100002000000:=aU (Gf _ l h.2) (by have:=h.1;omega)
theorem fitF.sz {f:Fm} (h:fitF f):R_ f<=100002000000:=aU (Rx _ f h.2) (by have:=h.1;omega)
mutual
def KX:Tm->Int->Nat | .mk _ n a,left=>1+n.length / 40+jr a left 0
def jr:List Tm->Int->Nat->Nat
 | [],_,n=>n
 | t :: r,left,n=>if (n:Int)<=left then jr r left (n+KX t (left - n)) else n
end
mutual
def Cd:Fm->Int->Nat | .mk _ n a s,left=>eN s left (1+n.length / 40+jr a left 0)
def eN:List Fm->Int->Nat->Nat
 | [],_,n=>n
 | t :: r,left,n=>if (n:Int)<=left then eN r left (n+Cd t (left - n)) else n
end
theorem KY (l:List Tm) (h:¬(n:Int)<=left):jr l left n=n:=by
 cases l <;> simp[jr,h]
theorem yF (l:List Fm) (h:¬(n:Int)<=left):eN l left n=n:=by
 cases l <;> simp[eN,h]
mutual
theorem TZ:∀ (t:Tm) (left:Int),KX t left<=Vx t/\((KX t left:Int)<=left->KX t left=Vx t)
 | .mk v n a,left=>by
  have h:=mW a left 0;unfold KX Vx;constructor
  ·omega
  ·intro h2;have:=h.2.2 (by omega);omega
theorem mW:∀ (l:List Tm) (left:Int) (n:Nat),n<=jr l left n/\jr l left n<=n+vW l/\((jr l left n:Int)<=left->jr l left n=n+vW l)
 | [],left,n=>by simp[jr,vW]
 | t :: r,left,n=>by
  unfold jr vW
  by_cases hn:(n:Int)<=left
  ·rw[au hn];have h1:=TZ t (left - n);have h2:=mW r left (n+KX t (left - n));refine ⟨by omega,by omega,fun h=>?_⟩;have h3:=h2.2.2 h;have h4:=h1.2 (by omega);omega
  ·rw[ak hn];exact ⟨aD _,by omega,fun h=>absurd h hn⟩
end
mutual
theorem T0:∀ (t:Fm) (left:Int),Cd t left<=R_ t/\((Cd t left:Int)<=left->Cd t left=R_ t)
 | .mk o n a s,left=>by
  have h:=mW a left 0;have h1:=kU s left (1+n.length / 40+jr a left 0);unfold Cd R_;refine ⟨by omega,fun h2=>?_⟩;have h3:=h1.2.2 h2;have h4:=h.2.2 (by omega);omega
theorem kU:∀ (l:List Fm) (left:Int) (n:Nat),n<=eN l left n/\eN l left n<=n+vX l/\((eN l left n:Int)<=left->eN l left n=n+vX l)
 | [],left,n=>by simp[eN,vX]
 | t :: r,left,n=>by
  unfold eN vX
  by_cases hn:(n:Int)<=left
  ·rw[au hn];have h1:=T0 t (left - n);have h2:=kU r left (n+Cd t (left - n));refine ⟨by omega,by omega,fun h=>?_⟩;have h3:=h2.2.2 h;have h4:=h1.2 (by omega);omega
  ·rw[ak hn];exact ⟨aD _,by omega,fun h=>absurd h hn⟩
end
def Mq (l:List Tm):Prop:=∀ (ok:Nat->Prop) (w:World) (a:Option Addr) (n c:Nat) (left:Int),fitTs l->TermsV ok w (.slice a n c) l->0<=left->left<=1000000000000 →
 Calls Tryz.prog 54 #[.slice a n c,.int .i64 left] w fun e w'=>e=.returned (.int .i64 (jr l left 0))/\Below w.heap.size w w'
theorem Ry (n:Nat):Int.tdiv (n:Int) 40=((n / 40:Nat):Int):=by rw[Int.tdiv_eq_ediv_of_nonneg (by omega)];rfl
theorem I1 (l:List Tm) (ih:∀ t∈l,Mq t.a):Mq l:=by
 intro ok w a n c left hfit hl h0 h1;obtain rfl:=hl.len;have hlen:=hfit.len;have hsz:=hfit.sz;exact pm310
theorem N3:∀ t:Tm,Mq t.a:=by
 intro t
 induction t using Tm.ind with
 | h v n a ih=>exact I1 a ih
theorem Rz (l:List Tm):Mq l:=I1 l (fun t _=>N3 t)
theorem RA:∀ (f:Fm),fitF f->∀ (ok:Nat->Prop) (w:World) (q:FQ) (left:Int),FormV ok w q.val f->0<=left->left<=1000000000000 →
  Calls Tryz.prog 23 #[q.val,.int .i64 left] w fun e w'=>e=.returned (.int .i64 (Cd f left))/\Below w.heap.size w w':=by
 intro t
 induction t using Fm.ind with
 | h o n a s ih=>
  intro hfit ok w q left hq h0 h1;exact pm24
def lF (l:List Fm):Bool:=decide (eN l 500 0<=500)
theorem yG {l:List Fm} (h:lF l=true):vX l<=500:=by
 unfold lF at h;have h1:=(kU l 500 0).2.2;simp only[bp]at h;have:=h1 (by omega);omega
theorem EH (l:List Fm) (hfit:fitFs l) (ok:Nat->Prop) (w:World) (a:Option Addr) (n c:Nat) (hl:FormsV ok w (.slice a n c) l) :
  Calls Tryz.prog 22 #[.slice a n c] w fun e w'=>e=.returned (.bool (lF l))/\Below w.heap.size w w':=by
 obtain rfl:=hl.len;have hlen:=hfit.len;have zbG:=hfit.sz;obtain ⟨k0,bX⟩:=am l.length;rw[<-bX]at hlen ⊢;obtain ⟨dA,HL,HF⟩:=cH bX hl hfit;clear bX hl hfit;go_enter Tryz.func22,Tryz.ntmps22;go_wp2;go_loopw [3,4] (fun r i wr=>∃k m:Nat,k<=k0/\i=.int .i64 k/\r=.int .i64 m/\Below w.heap.size w wr/\eN l 500 0=eN (l.drop k) 500 m/\m<=100002000000) (fun _ i _=>k0 - (intOf i).toNat)
 case atStart=>exact ⟨0,0,aX _,rfl,rfl,aj _ _,by simp,by omega⟩
 case round=>
  obtain ⟨k,m,hk,rfl,rfl,ar,hcut,Cu⟩:=hrel
  by_cases hlt:k<k0
  ·by_cases wn:(m:Int)<=500
   ·have bg:=ce dA.o hlt;obtain ⟨b,off,u,rfl,_,hu,c0,c1,c2,c3⟩:=HL.o.get bg;have Vy:l.drop k=l[k] :: l.drop (k+1):=gj bg;rw[Vy]at hcut;obtain ⟨d0,d1,d2,d3⟩:=mu ar c0 c1 c2 c3;obtain ⟨M,hM⟩:=am (Cd l[k] (500 - m));have CC:=RA l[k] (HF.o.mem (aw bg)) ok wr u (500 - m) (hu.later ar) (by omega) (by omega);rw[<-hM]at CC;have Ce:eN l 500 0=eN (l.drop (k+1)) 500 (m+M):=by
     rw[hcut];simp only[eN,au wn];rw[hM]
    have Kl:m+M<=100002000000:=by
     have h5:=(kU l 500 0).2.1;have h6:=(kU (l.drop (k+1)) 500 (m+M)).1;omega
    exact pm107
   ·have Im:decide ((m:Int)<=500)=false:=by simp;omega
    have As:decide ((k:Int)<(k0:Int))=true:=by simp;omega
    have HE:=ac (show lF l=false by unfold lF;rw[hcut.trans (yF _ wn)];simp;omega);have T1:=ac ar;clear hcut ar;go_wp2;go_ret;exact ⟨az HE.o.symm,T1.o⟩
  ·obtain rfl:k=k0:=by omega
   have hd:l.drop k=[]:=by rw[dA.o];exact List.drop_length
   rw[hd]at hcut;have HE:=ac (show lF l=decide ((m:Int)<=500) by have e:eN l 500 0=m:=hcut;unfold lF;rw[e,gV];simp;omega);have T1:=ac ar;clear hcut ar hd;go_wp2;go_ret;exact ⟨az HE.o.symm,T1.o⟩
section
attribute [local go_sem] Oper.semAt_some
def zdU:Fact:=⟨fun _ _ _=>True,fun _ _ _ _ _ _ h=>h⟩
section
variable {ops:Array Oper} {Q:Exit->Act->World->Prop} {a0:Act} {l:List Fact} {kA kS k:Nat} {M:Nat->Prop} {w0:World} {md:Region.Mode} {L:Nat->Prop}
theorem N4 {b:Bool} (h:v≠.bool b):¬(match some v with | some (Value.bool b)=>some b | _=>none)=some b:=by
 intro e;split at e
 ·rename_i h1;cases h1;cases e;exact h rfl
 ·cases e
theorem N5 {x:Value} (b:Bool) (hx:x≠.bool b) (j:Nat) (hd:Dep md ops a0 l kA kS M w0 k o d (fun v _ _=>v=x)) (ho:ops[k]?=some o:=by rfl) (hg:o.guard=some (j,b):=by rfl) (hj:ops[j]?=some oj:=by rfl) (I4:oj.dst=some d:=by rfl) (hp:jg l k=(cA undef).p\/jg l k=zdU.p):dM md ops Q a0 l kA kS M w0 k:=by
 exact pm201
theorem KZ (b:Bool) (j:Nat) (hd:Dep md ops a0 l kA kS M w0 k o d (fun v _ _=>v=.bool (!b))) (ho:ops[k]?=some o:=by rfl) (hg:o.guard=some (j,b):=by rfl) (hj:ops[j]?=some oj:=by rfl) (I4:oj.dst=some d:=by rfl) (hp:jg l k=(cA undef).p:=by rfl):dM md ops Q a0 l kA kS M w0 k:=
 N5 b (by cases b <;> simp) j hd ho hg hj I4 (.inl hp)
theorem RC (hT:Tabs Wb w0) (hM:∀ b,M b->Wb.heap.size<=b) {g:Option (Nat×Bool)}   (ho:ops[k]?=some ⟨some d,.call ⟨.value (.func 12),#[],jf⟩,ty,pos,cU,g⟩:=by rfl) (hw:Wt md ops a0 l kA kS M w0 k ⟨some d,.call ⟨.value (.func 12),#[],jf⟩,ty,pos,cU,g⟩:=by exact fun _ _ _ _=>rfl) (hp:jg l k=(cA (.bool true)).p:=by rfl):dM md ops Q a0 l kA kS M w0 k:=
 en hw ho rfl 12 (fun a γ w bl=>by
  refine ⟨#[],by go_simp,(NZ Wb w (hT.kp bl.inv.1 hM)).mono ?_⟩;rintro e w' ⟨rfl,hb⟩;exact ⟨⟨_,rfl,by rw[hp];rfl⟩,hb⟩)
theorem RD (f f2:Fm) (hf:fitF f) (KM:fitF f2) (x y:Nat) (hT:Tabs Wb w0) (hM:∀ b,M b->Wb.heap.size<=b) {g:Option (Nat×Bool)}  (hx:Dep md ops a0 l kA kS M w0 k ⟨some d,.call ⟨.value (.func 38),#[.tmp x,.tmp y],jf⟩,ty,pos,cU,g⟩ x (FormG L f)) (hy:Dep md ops a0 l kA kS M w0 k ⟨some d,.call ⟨.value (.func 38),#[.tmp x,.tmp y],jf⟩,ty,pos,cU,g⟩ y (FormG L f2)) (ho:ops[k]?=some ⟨some d,.call ⟨.value (.func 38),#[.tmp x,.tmp y],jf⟩,ty,pos,cU,g⟩:=by rfl) (hw:Wt md ops a0 l kA kS M w0 k ⟨some d,.call ⟨.value (.func 38),#[.tmp x,.tmp y],jf⟩,ty,pos,cU,g⟩:=by exact fun _ _ _ _=>rfl) (hp:jg l k=(cA (.bool (Cc f f2))).p:=by rfl):dM md ops Q a0 l kA kS M w0 k:=
 en hw ho rfl 38 (fun a γ w bl=>by
  obtain ⟨vx,ex,fx⟩:=hx.is bl;obtain ⟨vy,ey,fy⟩:=hy.is bl;obtain ⟨qx,rfl,hx⟩:=fx;obtain ⟨qy,rfl,hy⟩:=fy;refine ⟨#[qx.val,qy.val],by go_simp,(N1 Wb f f2 hf KM _ _ w (hT.kp bl.inv.1 hM) qx qy hx hy).mono ?_⟩;rintro e w' ⟨rfl,hb⟩;exact ⟨⟨_,rfl,by rw[hp];rfl⟩,hb⟩)
end
def RowX (lo:Nat) (v:Value) (ts:List Fm) (W:World):Prop:=
 ∃qs:List FQ,qs.length=ts.length/\W.ownsRow lo 36 4 v ts.length (qs.flatMap FQ.cells)/\∀ j (h:j<qs.length) (h2:j<ts.length),FormV (fun b=>v.ownBlock≠some b) W qs[j].val ts[j]
theorem RowX.nil (lo:Nat) (W:World):RowX lo (.slice none 0 0) [] W:=⟨[],rfl,World.ownsRow_nil _ _ _ _,fun j h=>by simp at h⟩
theorem RowX.slice (h:RowX lo v ts W):∃a c,v=.slice a ts.length c:=by
 obtain ⟨qs,_,ho,_⟩:=h;exact pm199
theorem RowX.forms (h:RowX lo v ts W):FormsV (fun _=>True) W v ts:=by
 exact pm264
theorem RowX.step {g cap k:Nat} {fs:List Fm} {W1 w4:World} {qs ps:List FQ} (hk:qs.length=ts.length) (hp:ps.length=fs.length) (hb:Below W.heap.size W W1)
  (ht:∀ j (h:j<qs.length) (h2:j<ts.length),FormV (fun b=>v.ownBlock≠some b) W qs[j].val ts[j]) (hq:∀ j (h:j<ps.length) (h2:j<fs.length),FormV (fun b=>v.ownBlock≠some b) W1 ps[j].val fs[j])
  (aV:w4.ownsRow lo 36 4 (.slice (some ⟨g,0,none⟩) k cap) k (qs.flatMap FQ.cells ++ ps.flatMap FQ.cells)) (iO:k=ts.length+fs.length)
  (aq:W1.grownBy w4 v.ownBlock) (hg:v.ownBlock=some g\/W1.heap.size<=g):RowX lo (.slice (some ⟨g,0,none⟩) k cap) (ts ++ fs) w4:=by
 have hs:=hb.size;have Ce:∀ c,c<W1.heap.size->v.ownBlock≠some c->(Value.slice (some ⟨g,0,none⟩) k cap).ownBlock≠some c:=fun c hc hn e=>by
  injection e with e;obtain rfl:g=c:=e;rcases hg with hg | hg
  ·exact hn hg
  ·omega
 refine ⟨qs ++ ps,by simp[hk,hp],by rw[List.flatMap_append,dO,<-iO];exact aV,fun j h1 h2=>?_⟩
 by_cases hj:j<qs.length
 ·rw[List.getElem_append_left hj,List.getElem_append_left (by omega)];exact (ht j hj (by omega)).move (fun b hok hlt=>⟨Ce b (by omega) hok,(aq.block b (by omega) (fun e=>hok e.symm)).trans (hb.block b hlt)⟩)
 ·rw[List.getElem_append_right (by omega),List.getElem_append_right (by omega)];simp only[hk];refine (hq (j - ts.length) (by simp at h1;omega) (by simp at h2;omega)).move (fun b hok hlt=>⟨Ce b hlt hok,aq.block b hlt (fun e=>hok e.symm)⟩)
theorem nR {F:Fence} {Q:Exit->Act->World->Prop} {a:Act} {K:Act->World->Prop} (s x:Operand) (ho:o.op=.call { callee:=.builtin .append,args:=#[s,x],argTypes:=#[34,34] })
  (lo:Nat) (ra:Option Addr) (m rc:Nat) (ts fs:List Fm) (ps:List FQ) (wr V:World) (cs:Array Value) (fh:RowX lo (.slice ra m rc) ts wr) (hm:ts.length=m) (hV:Below wr.heap.size wr V) (hlo:lo<=wr.heap.size) (hp:ps.length=fs.length) (om:0<ps.length)
  (hq:∀ j (h:j<ps.length) (h2:j<fs.length),FormV (fun b=>(Value.slice ra m rc).ownBlock≠some b) V ps[j].val fs[j]) (hs:a.eval s=.slice ra m rc) (hx:a.eval x=.slice (some ⟨V.heap.size,0,none⟩) ps.length ps.length)
  (hcs:cs.toList=ps.flatMap FQ.cells) (zeS:m+ps.length<=4000000)
  (h:∀ g cap w',RowX lo (.slice (some ⟨g,0,none⟩) (m+ps.length) cap) (ts ++ fs) w'->(∀ w0:World,Below w0.heap.size w0 V->w0.heap.size<=lo->Below w0.heap.size w0 w')->K (a.put o.dst (.slice (some ⟨g,0,none⟩) (m+ps.length) cap)) w') :
  o.wpIn F n Tryz.prog a (V.alloc (.cells cs 36)) K Q:=by
 obtain ⟨i0,hi,oM,ju,iy⟩:=info_parts jL;obtain ⟨qs,eE,aA,gL⟩:=fh;rw[hm]at eE aA;have hsz:=hV.size;have hb1:Below wr.heap.size wr (V.alloc (.cells cs 36)):=hV.alloc hV.size _;have GG:∀ l:List FQ,(l.flatMap FQ.cells).length=l.length * 4:=fun l=>by
  induction l with
  | nil=>rfl
  | cons x l ih=>simp only[List.flatMap_cons,dO,ih,eR,FQ.cells,List.length_nil];omega
 have zeT:cs=(ps.flatMap FQ.cells).toArray:=by rw[<-hcs]
 refine bx s x 34 ho lo 36 i0 (.agg #[.int .u8 0,.string ByteArray.empty,.slice none 0 0,.slice none 0 0]) 4 72 Tryz.underlying34 hi oM ju iy rfl (by decide) (.slice ra m rc) m _ hs (bi aA (fun b _ hlt=>hb1.block b hlt)) ⟨V.heap.size,0,none⟩ ps.length ps.length (ps.flatMap FQ.cells) hx (GG ps)
  (by rw[<-hcs];exact dc (cs:=cs) (t:=36) (fr:=(0,0)) (fZ V _)) ?_ om (by unfold maxLen;omega) (by omega) (by simp;omega) (V.heap.size+1) (by simp) ?_
 ·intro u hu;obtain ⟨z,_,hz⟩:=List.mem_flatMap.1 hu;simp only[FQ.cells,cd,List.not_mem_nil,or_false]at hz;rcases hz with rfl | rfl | rfl | rfl <;> rfl
 ·intro g eF w4 aV aq hg _;refine h g eF w4 (RowX.step (eE.trans hm.symm) hp hb1 (fun j h1 h2=>gL j h1 h2) (fun j h1 h2=>(hq j h1 h2).move (fun c hc hlt=>⟨hc,bE _ _ _ hlt⟩)) aV (by rw[hm,hp]) aq (by rcases hg with h | h;exact .inl h;exact .inr (by simp;omega))) (fun w0 h0 hw0=>?_);exact (h0.alloc h0.size _).grown aq (by have:=h0.size;simp;omega) (fun c hc=>aU hw0 (aA.lt c hc).1)
def Gg (l:List (Fm×Fm)):Bool:=decide (l.length<=8) && lF (cE (l.take 9))
theorem tU (l:List (Fm×Fm)):(cE l).length=2 * l.length:=by
 induction l with
 | nil=>rfl
 | cons x l ih=>simp[cE]at ih ⊢;omega
theorem I2 {l:List (Fm×Fm)} {k:Nat} (h:k<l.length):cE (l.take (k+1))=cE (l.take k) ++ [l[k].1,l[k].2]:=by
 rw[nV h];simp only[cE,List.flatMap_append,List.flatMap_cons,List.flatMap_nil,List.append_nil]
theorem N6 {a b:List Fm} (h:fitFs (a ++ b)):fitFs a:=by
 obtain ⟨h1,h2⟩:=h
 induction a with
 | nil=>exact ⟨by simp[nodesFs],by simp[nmFs]⟩
 | cons x a ih=>
  simp only[lG,nodesFs,nmFs,af]at h1 h2;have:=ih (by omega) h2.2;refine ⟨?_,by simp[nmFs,h2.1,this.2]⟩;have e:∀ c d:List Fm,nodesFs (c ++ d)=nodesFs c+nodesFs d:=fun c d=>by
   induction c with
   | nil=>simp[nodesFs]
   | cons y c ihc=>simp only[lG,nodesFs,ihc];omega
  rw[e]at h1;simp only[nodesFs];omega
theorem K1 {l:List (Fm×Fm)} (h:fitFs (cE l)) (k:Nat):fitFs (cE (l.take k)):=by
 have e:cE l=cE (l.take k) ++ cE (l.drop k):=by
  simp only[cE];rw[<-List.flatMap_append,List.take_append_drop]
 rw[e]at h;exact N6 h
theorem T2 (l:List (Fm×Fm)) (hfit:fitFs (cE l)) (ok:Nat->Prop) (w:World) (la:Option Addr) (lc:Nat) (hl:SPairsV ok w (.slice la l.length lc) l) :
  Calls Tryz.prog 13 #[.slice la l.length lc] w fun e w'=>e=.returned (.bool (Gg l))/\Below w.heap.size w w':=by
 have nS:2 * l.length<=2000000:=by have:=hfit.len;rw[tU]at this;exact this
 have J9:=hl.move (ok':=fun b=>b<w.heap.size) (fun b _ hlt=>⟨hlt,rfl⟩);obtain ⟨R,hR⟩:=am (Gg l);rw[<-hR];obtain ⟨n1,ea⟩:=am l.length;rw[<-ea]at J9 nS ⊢;obtain ⟨i0,hi,oM,ju,iy⟩:=info_parts jL;obtain ⟨HN,y_,HLV,HF⟩:=eH ea hR J9 hfit;clear hl J9 ea hR hfit;go_enter Tryz.func13,Tryz.ntmps13;go_wp2;go_loopw [3,4] (fun r i wr=>∃k:Nat,k<=n1/\k<=9/\i=.int .i64 k/\RowX w.heap.size r (cE (l.take k)) wr/\Below w.heap.size w wr) (fun _ i _=>n1 - (intOf i).toNat)
 case atStart=>exact ⟨0,aX _,by omega,rfl,RowX.nil _ _,aj _ _⟩
 case round=>
  obtain ⟨k,hk,hk9,rfl,hR,ar⟩:=hrel;obtain ⟨ra,rc,rfl⟩:=hR.slice
  by_cases hlt:k<n1/\k<9
  ·have bg:k<l.length:=by rw[<-HN.o];exact hlt.1
   obtain ⟨b,off,p,q,rfl,hok,hp,hq,c0,c1,c2,c3,c4,c5,c6,c7⟩:=HLV.o.get bg;have hm:(cE (l.take k)).length=2 * k:=by rw[tU,dT];omega
   rw[hm]at hR ⊢;have DK:(k:Int)<(n1:Int):=by omega
   have hkj:(k:Int)<9:=by omega
   obtain ⟨wz,YH⟩:=am wr;subst YH;obtain ⟨S,hS⟩:∃S:World->Prop,S=fun V=>Below w.heap.size w V:=⟨_,rfl⟩;have ff:∀ V,S V->V.cell? ⟨b,off+k * 8,none⟩=some (.int .u8 p.o)/\V.cell? ⟨b,off+k * 8+1,none⟩=some (.string p.n)/\V.cell? ⟨b,off+k * 8+2,none⟩=some (.slice p.a p.l p.c)/\V.cell? ⟨b,off+k * 8+3,none⟩=some (.slice p.b p.m p.e):=fun V h=>by
    rw[hS]at h;exact ⟨aa h c0,aa h c1,aa h c2,aa h c3⟩
   have fg:∀ V,S V->V.cell? ⟨b,off+k * 8+4,none⟩=some (.int .u8 q.o)/\V.cell? ⟨b,off+k * 8+5,none⟩=some (.string q.n)/\V.cell? ⟨b,off+k * 8+6,none⟩=some (.slice q.a q.l q.c)/\V.cell? ⟨b,off+k * 8+7,none⟩=some (.slice q.b q.m q.e):=fun V h=>by
    rw[hS]at h;exact ⟨aa h c4,aa h c5,aa h c6,aa h c7⟩
   have dU:S wz.drew:=by rw[hS];exact ar.drew
   have HP:=aG (hp.later ar) (hq.later ar);obtain ⟨HB,HR,dp,HM⟩:=eH ar hR hS hm;clear hS hR ar hp hq c0 c1 c2 c3 c4 c5 c6 c7 hm;go_wp2;refine (wpIn_wide (n:=3)).1 ?_;have iz:=fd;refine lH S 14 dU fun jC bN=>?_;refine bC 0 15 (.slice ra (2 * k:Nat) rc) rfl bN fun cr=>?_;simp only[ag];refine bC 1 16 (.slice (some ⟨b,off,none⟩) n1 lc) rfl bN fun cr=>?_;simp only[ag];refine bC 2 17 (.int .i64 k) rfl bN fun cr=>?_;simp only[ag];refine bC 3 18 (.pointer (some ⟨b,off+k * 8,none⟩)) rfl bN fun cr=>?_;simp only[ag];refine bC 4 19 (.pointer (some ⟨b,off+k * 8,none⟩)) rfl bN fun cr=>?_;simp only[ag];refine dh 5 20 (.agg #[.int .u8 p.o,.string p.n,.slice p.a p.l p.c,.slice p.b p.m p.e]) rfl (fun V hX=>by obtain ⟨g0,g1,g2,g3⟩:=ff V hX;go_simp) bN fun cr=>?_;simp only[ag];refine bC 6 21 (.slice (some ⟨b,off,none⟩) n1 lc) rfl bN fun cr=>?_;simp only[ag];refine bC 7 22 (.int .i64 k) rfl bN fun cr=>?_;simp only[ag];refine bC 8 23 (.pointer (some ⟨b,off+k * 8,none⟩)) rfl bN fun cr=>?_;simp only[ag];refine bC 9 24 (.pointer (some ⟨b,off+k * 8+4,none⟩)) rfl bN fun cr=>?_;simp only[ag];refine dh 10 25 (.agg #[.int .u8 q.o,.string q.n,.slice q.a q.l q.c,.slice q.b q.m q.e]) rfl (fun V hX=>by obtain ⟨g0,g1,g2,g3⟩:=fg V hX;go_simp) bN fun cr=>?_;simp only[ag];refine bZ 11 rfl fun K hK=>?_;go_simp;refine hK _ _ (fun _=>by rw[dp.o];exact (HB.o.drew).alloc HB.o.size _) (fun _=>?_);clear hK K;refine bZ 12 rfl fun K hK=>?_;refine nR (.tmp 15) (.tmp 26) rfl w.heap.size ra (2 * k) rc (cE (l.take k)) [l[k].1,l[k].2] [p,q] wz wz.drew _ HR.o HM.o ((aj _ _).drew) HB.o.size rfl (by simp) (fun j h1 h2=>?_) rfl rfl rfl (by simp;omega) (fun g eF w4 fh JD=>?_)
   ·have Nt:∀ {x:Value} {f:Fm},FormV (fun b=>b<w.heap.size) wz x f->FormV (fun b=>(Value.slice ra (2 * k:Nat) rc).ownBlock≠some b) wz.drew x f:=fun h=>
     h.move (show fk (fun b=>b<w.heap.size) (fun b=>(Value.slice ra (2 * k:Nat) rc).ownBlock≠some b) wz wz.drew from fun c hc hlt=>⟨fun e=>by obtain ⟨_,_,ho,_⟩:=HR.o;have:=(ho.lt c e).1;omega,rfl⟩)
    rcases j with _ | _ | j
    ·exact Nt HP.o.1
    ·exact Nt HP.o.2
    ·simp only[eR,List.length_nil]at h1;omega
   rw[<-I2 bg]at fh;have tk:=ac fh;have ei:=ac (JD w HB.o.drew (aD _));clear fh JD;have pp187a:=();exact pm187
  ·have hm:(cE (l.take k)).length=2 * k:=by rw[tU,dT];have:=HN.o;omega
   have ht9:cE (l.take k)=cE (l.take 9):=by
    congr 1
    by_cases h9:k=9
    ·rw[h9]
    ·rw[gU (by have:=HN.o;omega),gU (by have:=HN.o;omega)]
   rw[hm]at hR ⊢;have RE:=hR.forms;rw[ht9]at RE;have r':Gg l=(decide (n1<=8) && lF (cE (l.take 9))):=by unfold Gg;rw[HN.o]
   have CS:=EH (cE (l.take 9)) (K1 HF.o 9) _ wr ra _ rc RE;obtain ⟨sI,HB⟩:=aW CS ar;have Sy:=ac (y_.o.trans r');clear hR RE CS ar hm ht9 r'
   by_cases eJ:k<n1
   ·obtain rfl:k=9:=by omega
    have h8:decide ((n1:Int)<=8)=false:=by simp;omega
    have DK:((9:Nat):Int)<(n1:Int):=by omega
    have HE:=ac (show R=false by rw[Sy.o,show decide (n1<=8)=false by simp;omega];rfl);go_wp2;go_ret;exact ⟨by rw[HE.o];rfl,HB.o⟩
   ·obtain rfl:k=n1:=by omega
    by_cases h8:k<=8
    ·have h8':decide ((k:Int)<=8)=true:=by simp;omega
     have HE:=ac (show R=lF (cE (l.take 9)) by rw[Sy.o,show decide (k<=8)=true by simp;omega];rfl);have pp265:=();exact pm265
    ·have h8':decide ((k:Int)<=8)=false:=by simp;omega
     have HE:=ac (show R=false by rw[Sy.o,show decide (k<=8)=false by simp;omega];rfl);go_wp2;go_ret;exact ⟨by rw[HE.o];rfl,HB.o⟩
