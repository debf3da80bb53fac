/-
Contracts of 'size','Size','Small' of package lyceumlaw02.
What the calls of the laws' own functions leave;operations behind a guard that are not carried out. (Printed by gen_mdagl.py.)
-/
import Derived.Test.YtokemihbkeddoaaGreatDoorU00
import Derived.Test.YtokemihbkeddoaaGreatDoorU08
import Derived.Test.YtokemihbkeddoaaGreatDoorU07
import Derived.Test.YtokemihbkeddoaaGreatDoorU36
import Derived.Test.YtokemihbkeddoaaGreatDoorU37
import Derived.Test.YtokemihbkeddoaaGreatDoorU14
namespace Go.Proofs.YtokemihbkeddoaaGreatDoor
open Go Go.RowKit Lib
set_option maxRecDepth 100000
set_option maxHeartbeats 64000000
mutual
def V6:Tm->Nat | .mk _ n a=>1+n.length / 40+wv a
def wv:List Tm->Nat | []=>0 | t :: l=>V6 t+wv l
end
mutual
def Sj:Fm->Nat | .mk _ n a s=>1+n.length / 40+wv a+zA s
def zA:List Fm->Nat | []=>0 | t :: l=>Sj t+zA l
end
mutual
theorem U3 (p:Nat):∀ t,iS p t=true->V6 t<=nodesT t * (1+p / 40)
 | .mk v n a,h=>by
  exact pm295
theorem wI (p:Nat):∀ l,dF p l=true->wv l<=ac l * (1+p / 40)
 | [],_=>by simp[wv]
 | t :: l,h=>by
  simp only[dF,Bool.and_eq_true]at h
  have h1:=U3 p t h.1
  have h2:=wI p l h.2
  have e:(nodesT t+ac l) * (1+p / 40)=nodesT t * (1+p / 40)+ac l * (1+p / 40):=Nat.add_mul _ _ _
  unfold wv ac
  omega
end
mutual
theorem Ot (p:Nat):∀ t,ks p t=true->Sj t<=nodesF t * (1+p / 40)
 | .mk o n a s,h=>by
  simp only[ks,Bool.and_eq_true,decide_eq_true_eq]at h
  have h1:=wI p a h.2.2.1
  have h3:=Dw p s h.2.2.2
  have h2:n.length / 40<=p / 40:=Nat.div_le_div_right h.2.1
  have e:(ac a+ah s+1) * (1+p / 40)=ac a * (1+p / 40)+ah s * (1+p / 40)+(1+p / 40):=by rw[Nat.add_mul,Nat.add_mul,Nat.one_mul]
  unfold Sj nodesF
  omega
theorem Dw (p:Nat):∀ l,fd p l=true->zA l<=ah l * (1+p / 40)
 | [],_=>by simp[zA]
 | t :: l,h=>by
  simp only[fd,Bool.and_eq_true]at h
  have h1:=Ot p t h.1
  have h2:=Dw p l h.2
  have e:(nodesF t+ah l) * (1+p / 40)=nodesF t * (1+p / 40)+ah l * (1+p / 40):=Nat.add_mul _ _ _
  unfold zA ah
  omega
end
theorem fitTs.sz {l:List Tm} (h:fitTs l):wv l<=100002000000:=Nat.le_trans (wI _ l h.2) (by have:=h.1;omega)
theorem fitFs.sz {l:List Fm} (h:fitFs l):zA l<=100002000000:=Nat.le_trans (Dw _ l h.2) (by have:=h.1;omega)
theorem fitF.sz {f:Fm} (h:fitF f):Sj f<=100002000000:=Nat.le_trans (Ot _ f h.2) (by have:=h.1;omega)
mutual
def Il:Tm->Int->Nat | .mk _ n a,left=>1+n.length / 40+ig a left 0
def ig:List Tm->Int->Nat->Nat
 | [],_,n=>n
 | t :: r,left,n=>if (n:Int)<=left then ig r left (n+Il t (left - n)) else n
end
mutual
def zB:Fm->Int->Nat | .mk _ n a s,left=>d_ s left (1+n.length / 40+ig a left 0)
def d_:List Fm->Int->Nat->Nat
 | [],_,n=>n
 | t :: r,left,n=>if (n:Int)<=left then d_ r left (n+zB t (left - n)) else n
end
theorem Im (l:List Tm) {left:Int} {n:Nat} (h:¬(n:Int)<=left):ig l left n=n:=by
 cases l <;> simp[ig,h]
theorem vr (l:List Fm) {left:Int} {n:Nat} (h:¬(n:Int)<=left):d_ l left n=n:=by
 cases l <;> simp[d_,h]
mutual
theorem QO:∀ (t:Tm) (left:Int),Il t left<=V6 t/\((Il t left:Int)<=left->Il t left=V6 t)
 | .mk v n a,left=>by
  have h:=lC a left 0
  unfold Il V6
  constructor
  ·omega
  ·intro h2
   have:=h.2.2 (by omega)
   omega
theorem lC:∀ (l:List Tm) (left:Int) (n:Nat),n<=ig l left n/\ig l left n<=n+wv l/\((ig l left n:Int)<=left->ig l left n=n+wv l)
 | [],left,n=>by simp[ig,wv]
 | t :: r,left,n=>by
  unfold ig wv
  by_cases hn:(n:Int)<=left
  ·rw[if_pos hn]
   have h1:=QO t (left - n)
   have h2:=lC r left (n+Il t (left - n))
   refine ⟨by omega,by omega,fun h=>?_⟩
   have h3:=h2.2.2 h
   have h4:=h1.2 (by omega)
   omega
  ·rw[if_neg hn]
   exact ⟨Nat.le_refl _,by omega,fun h=>absurd h hn⟩
end
mutual
theorem QP:∀ (t:Fm) (left:Int),zB t left<=Sj t/\((zB t left:Int)<=left->zB t left=Sj t)
 | .mk o n a s,left=>by
  have h:=lC a left 0
  have h1:=k_ s left (1+n.length / 40+ig a left 0)
  unfold zB Sj
  refine ⟨by omega,fun h2=>?_⟩
  have h3:=h1.2.2 h2
  have h4:=h.2.2 (by omega)
  omega
theorem k_:∀ (l:List Fm) (left:Int) (n:Nat),n<=d_ l left n/\d_ l left n<=n+zA l/\((d_ l left n:Int)<=left->d_ l left n=n+zA l)
 | [],left,n=>by simp[d_,zA]
 | t :: r,left,n=>by
  unfold d_ zA
  by_cases hn:(n:Int)<=left
  ·rw[if_pos hn]
   have h1:=QP t (left - n)
   have h2:=k_ r left (n+zB t (left - n))
   refine ⟨by omega,by omega,fun h=>?_⟩
   have h3:=h2.2.2 h
   have h4:=h1.2 (by omega)
   omega
  ·rw[if_neg hn]
   exact ⟨Nat.le_refl _,by omega,fun h=>absurd h hn⟩
end
def Jz (l:List Tm):Prop:=∀ (ok:Nat->Prop) (w:World) (a:Option Addr) (n c:Nat) (left:Int),fitTs l->TermsV ok w (.slice a n c) l->0<=left->left<=1000000000000 →
 Calls Tryz.prog 54 #[.slice a n c,.int .i64 left] w fun e w'=>e=.returned (.int .i64 (ig l left 0))/\Below w.heap.size w w'
theorem Ou (n:Nat):Int.tdiv (n:Int) 40=((n / 40:Nat):Int):=by rw[Int.tdiv_eq_ediv_of_nonneg (by omega)];rfl
theorem FF (l:List Tm) (ih:∀ t∈l,Jz t.a):Jz l:=by
 intro ok w a n c left aD hl h0 h1
 obtain rfl:=hl.len
 have cq:=aD.len
 have hsz:=aD.sz
 exact pm310
theorem K6:∀ t:Tm,Jz t.a:=by
 intro t
 induction t using Tm.ind with
 | h v n a ih=>exact FF a ih
theorem Ov (l:List Tm):Jz l:=FF l (fun t _=>K6 t)
theorem Ow:∀ (f:Fm),fitF f->∀ (ok:Nat->Prop) (w:World) (q:FQ) (left:Int),FormV ok w q.val f->0<=left->left<=1000000000000 →
  Calls Tryz.prog 23 #[q.val,.int .i64 left] w fun e w'=>e=.returned (.int .i64 (zB f left))/\Below w.heap.size w w':=by
 intro t
 induction t using Fm.ind with
 | h o n a s ih=>
  intro aD ok w q left hq h0 h1
  exact pm23
def pg (l:List Fm):Bool:=decide (d_ l 500 0<=500)
theorem K7 (l:List Fm) (aD:fitFs l) (ok:Nat->Prop) (w:World) (a:Option Addr) (n c:Nat) (hl:FormsV ok w (.slice a n c) l) :
  Calls Tryz.prog 22 #[.slice a n c] w fun e w'=>e=.returned (.bool (pg l))/\Below w.heap.size w w':=by
 obtain rfl:=hl.len
 have cq:=aD.len
 have ZL:=aD.sz
 obtain ⟨k0,bO⟩:=ao l.length
 rw[<-bO]at cq ⊢
 obtain ⟨cY,HL,HF⟩:=cf bO hl aD
 clear bO hl aD
 go_enter Tryz.func22,Tryz.ntmps22
 go_wp2
 go_loopw [3,4] (fun r i wr=>∃k m:Nat,k<=k0/\i=.int .i64 k/\r=.int .i64 m/\Below w.heap.size w wr/\d_ l 500 0=d_ (l.drop k) 500 m/\m<=100002000000) (fun _ i _=>k0 - (intOf i).toNat)
 case atStart=>exact ⟨0,0,Nat.zero_le _,rfl,rfl,Below.refl _ _,by simp,by omega⟩
 case round=>
  obtain ⟨k,m,hk,rfl,rfl,az,hcut,zG⟩:=hrel
  by_cases hlt:k<k0
  ·by_cases tQ:(m:Int)<=500
   ·have bc:=bR cY.o hlt
    obtain ⟨b,off,u,rfl,_,hu,c0,c1,c2,c3⟩:=HL.o.get bc
    have Sk:l.drop k=l[k] :: l.drop (k+1):=List.drop_eq_getElem_cons bc
    rw[Sk]at hcut
    obtain ⟨d0,d1,d2,d3⟩:=lg az c0 c1 c2 c3
    obtain ⟨M,hM⟩:=ao (zB l[k] (500 - m))
    have CC:=Ow l[k] (HF.o.mem (List.getElem_mem bc)) ok wr u (500 - m) (hu.later az) (by omega) (by omega)
    rw[<-hM]at CC
    have FG:d_ l 500 0=d_ (l.drop (k+1)) 500 (m+M):=by
     rw[hcut]
     simp only[d_,if_pos tQ]
     rw[hM]
    have Hc:m+M<=100002000000:=by
     have h5:=(k_ l 500 0).2.1
     have h6:=(k_ (l.drop (k+1)) 500 (m+M)).1
     omega
    exact pm114
   ·have E3:decide ((m:Int)<=500)=false:=by simp;omega
    have xF:decide ((k:Int)<(k0:Int))=true:=by simp;omega
    have HE:=ab (show pg l=false by unfold pg;rw[hcut.trans (vr _ tQ)];simp;omega)
    have QQ:=ab az
    clear hcut az
    go_wp2
    go_ret
    exact ⟨aA HE.o.symm,QQ.o⟩
  ·obtain rfl:k=k0:=by omega
   have hd:l.drop k=[]:=by rw[cY.o];exact List.drop_length
   rw[hd]at hcut
   have HE:=ab (show pg l=decide ((m:Int)<=500) by have e:d_ l 500 0=m:=hcut;unfold pg;rw[e,Bool.eq_iff_iff];simp;omega)
   have QQ:=ab az
   clear hcut az hd
   go_wp2
   go_ret
   exact ⟨aA HE.o.symm,QQ.o⟩
section
attribute [local go_sem] Oper.semAt_some
def zb8:Fact:=⟨fun _ _ _=>True,fun _ _ _ _ _ _ h=>h⟩
def JA (L:Nat->Prop) (l:List Str):Fact:=⟨StrsG L l,fun _ _ _ _ _ hG=>StrsG.step hG⟩
section
variable {ops:Array Oper} {Q:Exit->Act->World->Prop} {a0:Act} {l:List Fact} {kA kS k:Nat} {M:Nat->Prop} {w0:World} {md:Region.Mode} {L:Nat->Prop}
theorem K8 {v:Value} {b:Bool} (h:v≠.bool b):¬(match some v with | some (Value.bool b)=>some b | _=>none)=some b:=by
 intro e
 split at e
 ·rename_i h1
  cases h1
  cases e
  exact h rfl
 ·cases e
theorem BC {x:Value} (b:Bool) (hx:x≠.bool b) {o oj:Oper} {d:Nat} (j:Nat) (hd:Dep md ops a0 l kA kS M w0 k o d (fun v _ _=>v=x)) (ho:ops[k]?=some o:=by rfl) (hg:o.guard=some (j,b):=by rfl) (hj:ops[j]?=some oj:=by rfl) (DC:oj.dst=some d:=by rfl) (hp:ie l k=(aE undef).p\/ie l k=zb8.p):dl md ops Q a0 l kA kS M w0 k:=by
 exact pm204
theorem dN (b:Bool) {o oj:Oper} {d:Nat} (j:Nat) (hd:Dep md ops a0 l kA kS M w0 k o d (fun v _ _=>v=.bool (!b))) (ho:ops[k]?=some o:=by rfl) (hg:o.guard=some (j,b):=by rfl) (hj:ops[j]?=some oj:=by rfl) (DC:oj.dst=some d:=by rfl) (hp:ie l k=(aE undef).p:=by rfl):dl md ops Q a0 l kA kS M w0 k:=
 BC b (by cases b <;> simp) j hd ho hg hj DC (.inl hp)
theorem gt (b:Bool) {o oj:Oper} {d:Nat} (j:Nat) (hd:Dep md ops a0 l kA kS M w0 k o d (fun v _ _=>v=undef)) (ho:ops[k]?=some o:=by rfl) (hg:o.guard=some (j,b):=by rfl) (hj:ops[j]?=some oj:=by rfl) (DC:oj.dst=some d:=by rfl) (hp:ie l k=(aE undef).p:=by rfl):dl md ops Q a0 l kA kS M w0 k:=
 BC b (by simp[undef]) j hd ho hg hj DC (.inl hp)
theorem Oy {Wb:World} (hT:Tabs Wb w0) (hM:∀ b,M b->Wb.heap.size<=b) {d:Nat} {eK:Array TypeId} {ty:TypeId} {pos:String} {bK:Array Edge} {g:Option (Nat×Bool)}   (ho:ops[k]?=some ⟨some d,.call ⟨.value (.func 12),#[],eK⟩,ty,pos,bK,g⟩:=by rfl) (hw:Wt md ops a0 l kA kS M w0 k ⟨some d,.call ⟨.value (.func 12),#[],eK⟩,ty,pos,bK,g⟩:=by exact fun _ _ _ _=>rfl) (hp:ie l k=(aE (.bool true)).p:=by rfl):dl md ops Q a0 l kA kS M w0 k:=
 dz hw ho rfl 12 (fun a γ w aW=>by
  refine ⟨#[],by go_simp,(K1 Wb w (hT.kp aW.inv.1 hM)).mono ?_⟩
  rintro e w' ⟨rfl,hb⟩
  exact ⟨⟨_,rfl,by rw[hp];rfl⟩,hb⟩)
theorem zC (fs:List Fm) (hf:fitFs fs) (x:Nat) {d:Nat} {eK:Array TypeId} {ty:TypeId} {pos:String} {bK:Array Edge} {g:Option (Nat×Bool)}  (hx:Dep md ops a0 l kA kS M w0 k ⟨some d,.call ⟨.value (.func 22),#[.tmp x],eK⟩,ty,pos,bK,g⟩ x (FormsG L fs)) (ho:ops[k]?=some ⟨some d,.call ⟨.value (.func 22),#[.tmp x],eK⟩,ty,pos,bK,g⟩:=by rfl) (hw:Wt md ops a0 l kA kS M w0 k ⟨some d,.call ⟨.value (.func 22),#[.tmp x],eK⟩,ty,pos,bK,g⟩:=by exact fun _ _ _ _=>rfl) (hp:ie l k=(aE (.bool (pg fs))).p:=by rfl):dl md ops Q a0 l kA kS M w0 k:=
 dz hw ho rfl 22 (fun a γ w aW=>by
  obtain ⟨vx,ex,fx⟩:=hx.is aW
  obtain ⟨ax,cx,rfl,hx⟩:=fx
  refine ⟨#[.slice ax fs.length cx],by go_simp,(K7 fs hf _ w ax _ cx hx).mono ?_⟩
  rintro e w' ⟨rfl,hb⟩
  exact ⟨⟨_,rfl,by rw[hp];rfl⟩,hb⟩)
theorem FH (f:Fm) (hf:fitF f) (x:Nat) {Wb:World} (hT:Tabs Wb w0) (hM:∀ b,M b->Wb.heap.size<=b) {d:Nat} {eK:Array TypeId} {ty:TypeId} {pos:String} {bK:Array Edge} {g:Option (Nat×Bool)}  (hx:Dep md ops a0 l kA kS M w0 k ⟨some d,.call ⟨.value (.func 39),#[.tmp x],eK⟩,ty,pos,bK,g⟩ x (FormG L f)) (ho:ops[k]?=some ⟨some d,.call ⟨.value (.func 39),#[.tmp x],eK⟩,ty,pos,bK,g⟩:=by rfl) (hw:Wt md ops a0 l kA kS M w0 k ⟨some d,.call ⟨.value (.func 39),#[.tmp x],eK⟩,ty,pos,bK,g⟩:=by exact fun _ _ _ _=>rfl) (hp:ie l k=(aE (.bool (bP f))).p:=by rfl):dl md ops Q a0 l kA kS M w0 k:=
 dz hw ho rfl 39 (fun a γ w aW=>by
  obtain ⟨vx,ex,fx⟩:=hx.is aW
  obtain ⟨qx,rfl,hx⟩:=fx
  refine ⟨#[qx.val],by go_simp,(kZ Wb f hf _ w (hT.kp aW.inv.1 hM) qx hx).mono ?_⟩
  rintro e w' ⟨rfl,hb⟩
  exact ⟨⟨_,rfl,by rw[hp];rfl⟩,hb⟩)
theorem FI (f f2:Fm) (hf:fitF f) (Qi:fitF f2) (x y:Nat) {Wb:World} (hT:Tabs Wb w0) (hM:∀ b,M b->Wb.heap.size<=b) {d:Nat} {eK:Array TypeId} {ty:TypeId} {pos:String} {bK:Array Edge} {g:Option (Nat×Bool)}  (hx:Dep md ops a0 l kA kS M w0 k ⟨some d,.call ⟨.value (.func 38),#[.tmp x,.tmp y],eK⟩,ty,pos,bK,g⟩ x (FormG L f)) (hy:Dep md ops a0 l kA kS M w0 k ⟨some d,.call ⟨.value (.func 38),#[.tmp x,.tmp y],eK⟩,ty,pos,bK,g⟩ y (FormG L f2)) (ho:ops[k]?=some ⟨some d,.call ⟨.value (.func 38),#[.tmp x,.tmp y],eK⟩,ty,pos,bK,g⟩:=by rfl) (hw:Wt md ops a0 l kA kS M w0 k ⟨some d,.call ⟨.value (.func 38),#[.tmp x,.tmp y],eK⟩,ty,pos,bK,g⟩:=by exact fun _ _ _ _=>rfl) (hp:ie l k=(aE (.bool (pf f f2))).p:=by rfl):dl md ops Q a0 l kA kS M w0 k:=
 dz hw ho rfl 38 (fun a γ w aW=>by
  obtain ⟨vx,ex,fx⟩:=hx.is aW
  obtain ⟨vy,ey,fy⟩:=hy.is aW
  obtain ⟨qx,rfl,hx⟩:=fx
  obtain ⟨qy,rfl,hy⟩:=fy
  refine ⟨#[qx.val,qy.val],by go_simp,(K5 Wb f f2 hf Qi _ _ w (hT.kp aW.inv.1 hM) qx qy hx hy).mono ?_⟩
  rintro e w' ⟨rfl,hb⟩
  exact ⟨⟨_,rfl,by rw[hp];rfl⟩,hb⟩)
theorem QR (f:Fm) (hf:fitF f) (yd:nodesF f<=1000000) (x:Nat) (hL:∀ b,w0.heap.size<=b->L b) {d:Nat} {eK:Array TypeId} {ty:TypeId} {pos:String} {bK:Array Edge} {g:Option (Nat×Bool)}  (hx:Dep md ops a0 l kA kS M w0 k ⟨some d,.call ⟨.value (.func 40),#[.tmp x],eK⟩,ty,pos,bK,g⟩ x (FormG L f)) (ho:ops[k]?=some ⟨some d,.call ⟨.value (.func 40),#[.tmp x],eK⟩,ty,pos,bK,g⟩:=by rfl) (hw:Wt md ops a0 l kA kS M w0 k ⟨some d,.call ⟨.value (.func 40),#[.tmp x],eK⟩,ty,pos,bK,g⟩:=by exact fun _ _ _ _=>rfl) (hp:ie l k=(JA L (de (aO [] f))).p:=by rfl):dl md ops Q a0 l kA kS M w0 k:=
 dz hw ho rfl 40 (fun a γ w aW=>by
  obtain ⟨vx,ex,fx⟩:=hx.is aW
  obtain ⟨qx,rfl,hx⟩:=fx
  refine ⟨#[qx.val],by go_simp,(oK f hf yd _ w qx hx).mono ?_⟩
  rintro e w' ⟨⟨v,rfl,hv⟩,hb⟩
  exact ⟨⟨_,rfl,by rw[hp];exact (hv.strs).move (okB.new aW.inv (fun b hb=>hL b (Nat.le_trans aW.inv.1.size hb)))⟩,hb⟩)
theorem U5 (o:Int) (s:Str) (fs:List Fm) (x y:Nat) {d:Nat} {eK:Array TypeId} {ty:TypeId} {pos:String} {bK:Array Edge} {g:Option (Nat×Bool)}  (hx:Dep md ops a0 l kA kS M w0 k ⟨some d,.call ⟨.value (.func 28),#[.const (.int .u8 o),.tmp y,.tmp x],eK⟩,ty,pos,bK,g⟩ x (FormsG L fs)) (hy:Dep md ops a0 l kA kS M w0 k ⟨some d,.call ⟨.value (.func 28),#[.const (.int .u8 o),.tmp y,.tmp x],eK⟩,ty,pos,bK,g⟩ y (fun v _ _=>v=.string ⟨s.toArray⟩)) (ho:ops[k]?=some ⟨some d,.call ⟨.value (.func 28),#[.const (.int .u8 o),.tmp y,.tmp x],eK⟩,ty,pos,bK,g⟩:=by rfl) (hw:Wt md ops a0 l kA kS M w0 k ⟨some d,.call ⟨.value (.func 28),#[.const (.int .u8 o),.tmp y,.tmp x],eK⟩,ty,pos,bK,g⟩:=by exact fun _ _ _ _=>rfl) (hp:ie l k=FormG L (.mk o s [] fs):=by rfl):dl md ops Q a0 l kA kS M w0 k:=
 dz hw ho rfl 28 (fun a γ w aW=>by
  obtain ⟨vx,ex,fx⟩:=hx.is aW
  obtain ⟨vy,ey,rfl⟩:=hy.is aW
  obtain ⟨ax,cx,rfl,hx⟩:=fx
  refine ⟨#[.int .u8 o,.string ⟨s.toArray⟩,.slice ax fs.length cx],by go_simp,(IW _ _ _ _ _ w).mono ?_⟩
  rintro e w' ⟨rfl,hb⟩
  exact ⟨⟨_,rfl,by rw[hp];exact ⟨⟨o,⟨s.toArray⟩,none,0,0,ax,fs.length,cx⟩,rfl,aQ.2 ⟨_,_,rfl,bV,hx.move (Gr.keep hb).holds⟩⟩⟩,hb⟩)
end
end
end Go.Proofs.YtokemihbkeddoaaGreatDoor
