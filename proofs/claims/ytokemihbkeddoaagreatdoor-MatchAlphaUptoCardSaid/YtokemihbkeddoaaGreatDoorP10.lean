/-L-/
import Derived.Test.YtokemihbkeddoaaGreatDoorP09
open Go.Proofs.Tryz
namespace Go.Proofs.YtokemihbkeddoaaGreatDoor
open Go Go.RowKit Lib
set_option maxRecDepth 100000
set_option maxHeartbeats 0
variable{o:Oper}{a:Act}{W W' Wb:World}{v:Value}{j n lo d m i:Nat}{f:Fm}{ty:TypeId}{pos:String}{fw:Array Edge}{ob:Option Nat}{c:gO}{fr:List aj}{σ ρ:aj->Dt}{b:Bd}{p:Pl}{Cs:Array TypeId}{q:BQ}
section
attribute [local go_sem] Oper.semAt_some
theorem AH(w:World)(lo:Nat)(hlo:lo<=w.heap.size)(v1:Value)(l1:List aj)(h1:fK lo w v1 l1)(b2:Nat)(x:aj)(h2:w.cell? ⟨b2,0,none⟩=some (.string ⟨x.toArray⟩))(hl:l1.length+1<=4000000)(ty:TypeId):
  ∃v' w',(Builtin.append_ #[66,66] ty #[v1,.slice (some ⟨b2,0,none⟩) 1 1]).run prog w=.ok v' w'/\fK lo w' v' (l1++[x])/\w.grownBy w' v1.ownBlock/\∀b,v'.ownBlock=some b->v1.ownBlock=some b\/w.heap.size<=b:=by
 obtain ⟨i0,hi,oO,jv,iG⟩:=info_parts yz;obtain ⟨g,cap,w',hr,h3,h4,h5,_⟩:=run_append_lies (P:=prog) w 66 ty lo 9 i0 (.string ByteArray.empty) 1 16 underlying66 hi oO jv iG rfl (by decide) v1 l1.length (l1.map encStr) h1 ⟨b2,0,none⟩ 1 1 [encStr x] rfl (fun j u hu=>by
  cases j with
  |zero=>rw[uJ,h2];simpa using hu
  |succ j=>simp at hu) (by simp[encStr,Value.oneCell']) (by decide) (by unfold maxLen;omega) (by omega) hlo _ rfl
 refine⟨_,_,hr,?_,h4,fun b hb=>?_⟩
 ·unfold fK;rw[ei,List.map_append];exact h3
 ·cases hb;rcases h5 with h|h
  ·exact .inl h
  ·exact .inr (Nat.le_of_eq h.symm)
theorem vB{ops:Array Oper}{rest:List Oper}{w:World}{Q:Exit->Act->World->Prop}(xF:o.guard=none)(s x:Operand)
  (ho:o.op=.call {callee:=.builtin .append,args:=#[s,x],argTypes:=#[66,66] }) (lo:Nat) (hlo:lo<=w.heap.size) (v1:Value) (l1:List aj) (hs:a.eval s=v1) (h1:fK lo w v1 l1) (b2:Nat) (y:aj) (hx:a.eval x=.slice (some ⟨b2,0,none⟩) 1 1) (h2:w.cell? ⟨b2,0,none⟩=some (.string ⟨y.toArray⟩)) (hl:l1.length+1<=4000000)
  (h:∀v' w',fK lo w' v' (l1++[y])->w.grownBy w' v1.ownBlock->(∀b,v'.ownBlock=some b->v1.ownBlock=some b\/w.heap.size<=b)->wpList prog ops Q rest (a.put o.dst v') w'):wpList prog ops Q (o::rest) a w:=by
 refine wpList_plain xF fun K hK=>?_;obtain⟨v',w',hr,h3,h4,h5⟩:=AH w lo hlo v1 l1 h1 b2 y h2 hl o.type;exact qcp
theorem fJ.own{ok:Nat->Prop}{l:List aj}(h:fJ ok W v l):fJ (fun b=>v.ownBlock=some b) W v l:=by
 obtain⟨a,cap,rfl,hc,h⟩:=h;refine⟨a,cap,rfl,hc,?_⟩;rcases h with h|⟨b,off,rfl,_,h⟩
 ·exact .inl h
 ·exact .inr ⟨b,off,rfl,rfl,h⟩
theorem fJ.grown{row:Option Nat}{l:List aj}(h:fJ (fun b=>v.ownBlock=some b) W v l)(hg:W.grownBy W' row)(jd:∀b,row=some b->v.ownBlock≠some b):fJ (fun b=>v.ownBlock=some b) W' v l:=by
 exact qaJ
theorem MC{l:List Fm}(h:j<l.length):gg (l.take (j+1))=gg (l.take j)++(dX (aP [] l[j])).filter cW:=by
 rw[lq h];simp only[gg,List.flatMap_append,List.flatMap_cons,List.flatMap_nil,List.append_nil]
theorem xx:∀l:List Fm,(gg l).length<=ah l
 |[]=>by simp[gg]
 |t::l=>by
  have h1:=xx l;have h2:=List.length_filter_le cW (dX (aP [] t));have h3:=gp (aP [] t);have h4:=fI t [];simp only[gg,List.flatMap_cons,ei,ah]at h1⊢;omega
theorem AI(l:List Fm)(aI:jp l)(Kc:ah l<=1000000)(ok:Nat->Prop)(w:World)(la:Option Addr)(lc:Nat)(hl:eL ok w (.slice la l.length lc) l):
  Calls prog 87 #[.slice la l.length lc] w fun e w'=>(∃v,e=.returned v/\fK w.heap.size w' v (gg l))/\Below w.heap.size w w':=by
 have I3:=hl.move (ok':=fun b=>b<w.heap.size) (fun _ _ h=>⟨h,rfl⟩);have hln:=aI.len;have⟨n1,eB⟩:=az l.length;rw[<-eB]at I3 hln⊢;have⟨HN,HLV⟩:=bi eB I3;have HF:=aM aI Kc;clear hl I3 eB aI Kc;go_enter func87,ntmps87;go_wp2;go_loopw [3,4] (fun r i wr=>∃j:Nat,j<=n1/\i=.int .i64 j/\fK w.heap.size wr r (gg (l.take j))/\Below w.heap.size w wr) (fun _ i _=>n1-(intOf i).toNat)
 case atStart=>exact⟨0,bn _,rfl,fK.nil _ _,ar _ _⟩
 case round=>
  obtain⟨j,hj,rfl,ea,aD⟩:=hrel;have⟨wo,IU⟩:=az wr;subst IU
  by_cases hlt:j<n1
  ·have lU:=cG HN.o hlt;obtain⟨b,o,u,rfl,hok,hx,c0,c1,c2,c3⟩:=HLV.o.get lU;have qof:=();exact qaK
  ·have _f:j=n1:=by omega
   subst _f;have hlt:¬((j:Int)<(j:Int)):=by omega
   have oe:gg (l.take j)=gg l:=by rw[HN.o,dA]
   rw[oe]at ea;go_wp2;go_ret;exact⟨⟨_,rfl,ea⟩,aD⟩
theorem Sg(w:World)(x y:Int):(convert 246 9 (.slice (some ⟨w.heap.size,0,none⟩) 2 2)).run prog (w.alloc (.cells #[.int .u8 x,.int .u8 y] 5))=.ok (.string (strOfNums [x,y])) (w.alloc (.cells #[.int .u8 x,.int .u8 y] 5)):=by
 exact run_convert_bytes_arg (P:=prog) (w.alloc (.cells #[.int .u8 x,.int .u8 y] 5)) 246 5 underlying246 underlying5 w.heap.size 0 2 2 [x,y] rfl (fun i hi=>by
  have:i=0\/i=1:=by omega
  rcases this with rfl|rfl<;>simp) 9 underlying9
theorem Wp(j:Nat):(⟨#[104,111,108,101]⟩:ByteArray)++strOfNums [97+(j:Int) % 26,97+(j:Int) / 26 % 26]=⟨(Wk j).toArray⟩:=by
 have h1:(97+(j:Int) % 26).toNat=97+j % 26:=by omega
 have h2:(97+(j:Int) / 26 % 26).toNat=97+j / 26 % 26:=by omega
 have e:strOfNums [97+(j:Int) % 26,97+(j:Int) / 26 % 26]=⟨#[UInt8.ofNat (97+j % 26),UInt8.ofNat (97+j / 26 % 26)]⟩:=by
  unfold strOfNums;simp[h1,h2]
 rw[e];rfl
theorem BS:∀{ns:List aj}{n:aj}{j:Nat}(hj:j<ns.length),ns[j]=n->(ns.take j).contains n=false->ns.idxOf n=j
 |x::ns,n,0,_,h,_=>by simp at h;simp[h]
 |x::ns,n,j+1,hj,h,hc=>by
  simp only[List.take_succ_cons,List.contains_cons,Bool.or_eq_false_iff]at hc;have h1:=BS (ns:=ns) (by simpa using hj) (by simpa using h) hc.2;have h2:(x==n)=false:=by simpa[beq_eq_false_iff_ne,ne_comm]using hc.1
  rw[List.idxOf_cons,h2,h1];rfl
theorem Fh(ns:List aj):∀l,d9 ns l=l.map (pu ns)
 |[]=>rfl
 |t::l=>by simp[d9,Fh ns l]
def fZ(ns:List aj)(v:Bool)(n:aj)(a:List Tm)(k:Nat):Tm:=if v&&(ns.take k).contains n then .mk false (Wk (ns.idxOf n)) []else .mk v n (d9 ns a)
theorem J0{ns:List aj}{v:Bool}{n:aj}{a:List Tm}(hj:j<ns.length):
  ((fZ ns v n a j).v=false->fZ ns v n a (j+1)=fZ ns v n a j)∧
  ((fZ ns v n a j).v=true->fZ ns v n a j=.mk true n (d9 ns a)/\(ns[j]=n->fZ ns v n a (j+1)=.mk false (Wk j) [])/\(ns[j]≠n->fZ ns v n a (j+1)=fZ ns v n a j)):=by
 have hs:(ns.take (j+1)).contains n=((ns.take j).contains n||(n==ns[j])):=by
  rw[lq hj,List.contains_append];simp[Bool.beq_eq_decide_eq]
 unfold fZ;rw[hs];cases v
 ·simp[Tm.v]
 ·cases hc:(ns.take j).contains n
  ·simp only[dL,bR,↓reduceIte,Tm.v,Bool.false_or,ef];refine⟨fun h=>(by cases h),fun _=>⟨trivial,fun e=>?_,fun e=>aw fun h=>e h.symm⟩⟩;rw[aG e.symm];have hi:ns.idxOf n=j:=BS hj e hc;rw[hi]
  ·simp[Tm.v]
def MD(ns:List aj)(l:List Tm):Prop:=∀(ok κ:Nat->Prop)(w:World)(a:Option Addr)(n c:Nat)(nv:Value),cB ok w (.slice a n c) l->fJ κ w nv ns→
 Calls prog 153 #[.slice a n c,nv] w fun e w'=>(∃a' c',e=.returned (.slice a' l.length c')/\cB (w.heap.size<=·) w' (.slice a' l.length c') (d9 ns l))/\Below w.heap.size w w'
theorem zz(ns:List aj)(sH:ns.length<=4000000)(l:List Tm)(aI:jE l)(XI:∀t∈l,MD ns t.a):MD ns l:=by
 intro ok κ w a n c nv hv Zm;exact qeS
theorem Gs(ns:List aj)(sH:ns.length<=4000000)(l:List Tm)(aI:jE l):MD ns l:=by
 have h:∀t,e7 t->MD ns t.a:=by
  intro t
  induction t using Tm.ind with
  |h v n a ih=>exact fun hf=>zz ns sH a hf.args (fun t ht=>ih t ht (hf.args.mem ht))
 exact zz ns sH l aI (fun t ht=>h t (aI.mem ht))
theorem Fi(ns:List aj):∀l,kG ns l=l.map (fd ns)
 |[]=>rfl
 |t::l=>by simp[kG,Fi ns l]
theorem Fj(ns:List aj)(sH:ns.length<=4000000):∀(t:Fm),cJ t->∀(ok κ:Nat->Prop)(w:World)(q:FQ)(nv:Value),aC ok w q.val t->fJ κ w nv ns→
  Calls prog 88 #[q.val,nv] w fun e w'=>∃p:FQ,e=.returned p.val/\aC (w.heap.size<=·) w' p.val (fd ns t)/\Below w.heap.size w w':=by
 obtain⟨GP,hj,lU,Ba,QR⟩:=info_parts ju;intro t
 induction t using Fm.ind with
 |h o n a s ih=>
  intro aI ok κ w q nv hq Zm;have hp:fd ns (.mk o n a s)=.mk o n (d9 ns a) (s.map (fd ns)):=by simp[fd,Fi]
  rw[hp];clear hp;obtain⟨na,nc,rfl⟩:=Zm.slice;have⟨n2,jY⟩:=az ns.length;rw[<-jY]at Zm⊢;have HNs:=ae Zm;clear Zm jY;have qog:=();exact qar
mutual
theorem Sh(ns:List aj):∀t,ap (pu ns t)<=ap t/\(kI 2000000 t=true->kI 2000000 (pu ns t)=true)
 |.mk v n a=>by
  obtain⟨h1,h2⟩:=xy ns a;unfold pu;split
  ·exact⟨by simp only[ap,af];omega,fun _=>by simp[kI,d8,Wk]⟩
  ·simp only[ap,kI,ak];exact⟨by omega,fun h=>⟨h.1,h2 h.2⟩⟩
theorem xy(ns:List aj):∀t,af (d9 ns t)<=af t/\(d8 2000000 t=true->d8 2000000 (d9 ns t)=true)
 |[]=>⟨aK _,fun h=>h⟩
 |t::l=>by
  obtain⟨h1,h2⟩:=Sh ns t;obtain⟨h3,h4⟩:=xy ns l;simp only[d9,af,d8,ak];exact qfz
end
mutual
theorem xz(ns:List aj):∀f,ag (fd ns f)<=ag f/\(mI 2000000 f=true->mI 2000000 (fd ns f)=true)
 |.mk o n a s=>by
  obtain⟨h1,h2⟩:=xy ns a;obtain⟨h3,h4⟩:=BU ns s;simp only[fd,ag,mI,ak];exact⟨by omega,fun h=>⟨h.1,h.2.1,h2 h.2.2.1,h4 h.2.2.2⟩⟩
theorem BU(ns:List aj):∀f,ah (kG ns f)<=ah f/\(eu 2000000 f=true->eu 2000000 (kG ns f)=true)
 |[]=>⟨aK _,fun h=>h⟩
 |t::l=>by
  obtain⟨h1,h2⟩:=xz ns t;obtain⟨h3,h4⟩:=BU ns l;simp only[kG,ah,eu,ak];exact qfz
end
theorem Io(ns:List aj)(h:cJ f):cJ (fd ns f):=⟨aR (xz ns f).1 h.1,(xz ns f).2 h.2⟩
def AK(f g:Fm):Bool:=JV (fd (gg [f,g]) f) (fd (gg [f,g]) g)
theorem Si(W0:World)(f g:Fm)(hf:cJ f)(hg:cJ g)(Un:ag f+ag g<=1000000)(ok ok':Nat->Prop)(w:World)(ht:gG W0 w)(q q':FQ)(hq:aC ok w q.val f)(gY:aC ok' w q'.val g):
  Calls prog 42 #[q.val,q'.val] w fun e w'=>e=.returned (.bool (AK f g))/\Below w.heap.size w w':=by
 have⟨ns,sH⟩:=az (gg [f,g]);unfold AK;rw[<-sH];have mn:ns.length<=4000000:=by have:=xx [f,g];rw[sH];simp only[ah]at this;omega
 have⟨W2,bp⟩:=az (((w.alloc (.cells #[.int .u8 q.o,.string q.n,.slice q.a q.l q.c,.slice q.b q.m q.e] 36)).alloc (.cells #[.int .u8 q'.o,.string q'.n,.slice q'.a q'.l q'.c,.slice q'.b q'.m q'.e] 36)).alloc (.cells #[.int .u8 q.o,.string q.n,.slice q.a q.l q.c,.slice q.b q.m q.e,.int .u8 q'.o,.string q'.n,.slice q'.a q'.l q'.c,.slice q'.b q'.m q'.e] 36));have ew:=xK bp;have x0:=xM bp;have x1:=sy bp;have x2:=qw bp;have SF:=Ig (ok:=fun _=>True) q q' 2 x2 trivial ((hq.later ew).move (fun _ _ _=>⟨trivial,rfl⟩)) ((gY.later ew).move (fun _ _ _=>⟨trivial,rfl⟩));have CP:=ae (AI [f,g] ⟨by simp only[ah];omega,by simp only[eu,hf.2,hg.2,Bool.and_self]⟩ (by simp only[ah];omega) _ W2 _ 2 SF);simp only[<-sH,fB,List.length_nil,Nat.zero_add,Nat.reduceAdd]at CP;have H0:=gN ew x0 x1 hq gY;have gh:=ae bp;have lH:=bS hf hg mn;have Gk:=ae ht;clear ew x0 x1 x2 hq gY bp hf hg Un ht sH mn SF;go_enter func42,ntmps42;unfold FQ.val;go_wp2_with (rw[<-gh.o];go_at_call 87;refine CP.o.mono ?_;rintro e W5 ⟨⟨v3,rfl,WZ⟩,aS⟩;have H3:=aM WZ aS;clear aS WZ);have cV:=H3.o.1.strs;obtain⟨na,nc,rfl⟩:=cV.slice;have aS:=H3.o.2;have y0:=bY aS H0.o.2.1;have y1:=bY aS H0.o.2.2.1;have qoh:=();exact qaZ
theorem Fk(ok:Nat->Prop)(W:World):et ok W (.slice none 0 0) []:=⟨none,0,fun _=>⟨0,⟨#[]⟩,none,0,0,none,0,0⟩,rfl,aK _,.inl rfl,fun j hj=>by simp at hj⟩
theorem J1(W0:World)(x y:Bd)(hx1:x.fs.length<=1000000)(hx2:x.ts.length<=1000000)(hfx:∀f∈x.fs,cJ f.2/\ag f.2<=500000)(hfy:∀f∈y.fs,cJ f.2/\ag f.2<=500000)(htx:∀t∈x.ts,e7 t.2)
  (hl:x.fs.length=y.fs.length) (hf:∀k (h:k<x.fs.length) (h':k<y.fs.length),x.fs[k].1=y.fs[k].1/\AK x.fs[k].2 y.fs[k].2=true) (hts:x.ts=y.ts)
  (ok ok':Nat->Prop) (w:World) (ht:gG W0 w) (q q':BQ) (hq:fH ok w q x) (gY:fH ok' w q' y):
  Calls prog 44 #[q.val,q'.val] w fun e w'=>e=.returned (.bool true)/\Below w.heap.size w w':=by
 exact qfx
theorem ME{g:Fm}(hf:bw (bI f)=true)(hg:bw (bI g)=true)(h:db f=db g):AK f g=true:=by
 obtain⟨h1,h2,h3⟩:=JZ hf hg h;simp[AK,JV,h1,h2,h3]
section
variable{ops:Array Oper}{Q:Exit->Act->World->Prop}{a0:Act}{l:List gL}{kA kS k:Nat}{M:Nat->Prop}{w0:World}{md:Region.Mode}{L:Nat->Prop}
end
def P8(x:FQ×FQ):List Value:=x.1.cells++x.2.cells
theorem zd7(qs:List (FQ×FQ)):∀j (h:j<qs.length) i (_:i<8),(qs.flatMap P8)[j*8+i]?=(P8 qs[j])[i]?:=by
 induction qs with
 |nil=>intro j h;simp at h
 |cons q qs ih=>
  intro j h i hi;have hl:(P8 q).length=8:=rfl;rw[List.flatMap_cons]
  cases j with
  |zero=>rw[List.getElem?_append_left (by omega)];simp
  |succ j=>
   rw[List.getElem?_append_right (by omega),hl,show(j+1)*8+i-8=j*8+i by omega];exact ih j (by simpa using h) i hi
def qp(lo:Nat)(v:Value)(ps:List (Fm×Fm))(W:World):Prop:=
 ∃qs:List (FQ×FQ),qs.length=ps.length/\W.ownsRow lo 50 8 v ps.length (qs.flatMap P8)/\∀j (h:j<qs.length) (h2:j<ps.length),aC (fun b=>v.ownBlock≠some b) W qs[j].1.val ps[j].1/\aC (fun b=>v.ownBlock≠some b) W qs[j].2.val ps[j].2
theorem qp.nil(lo:Nat)(W:World):qp lo (.slice none 0 0) [] W:=⟨[],rfl,World.ownsRow_nil _ _ _ _,fun j h=>by simp at h⟩
theorem qp.lt{ps:List (Fm×Fm)}(h:qp lo v ps W):∀b,v.ownBlock=some b->lo<=b/\b<W.heap.size:=by
 obtain⟨_,_,ho,_⟩:=h;exact ho.lt
theorem qp.kept{ps:List (Fm×Fm)}(h:qp lo v ps W)(hk:∀b,b<W.heap.size->W'.heap[b]?=W.heap[b]?):qp lo v ps W':=by
 obtain⟨qs,h1,ho,h2⟩:=h;exact⟨qs,h1,bh ho (fun b _ hlt=>hk b hlt),fun j a b=>⟨(h2 j a b).1.move (fun c hc hlt=>⟨hc,hk c hlt⟩),(h2 j a b).2.move (fun c hc hlt=>⟨hc,hk c hlt⟩)⟩⟩
theorem qp.pairs{ps:List (Fm×Fm)}(h:qp lo v ps W):∃a c,v=.slice a ps.length c/\dZ (fun b=>b<W.heap.size) W (.slice a ps.length c) ps:=by
 obtain⟨qs,hk,ho,ht⟩:=h;have hm:∀(b:Nat),v.ownBlock≠some b->b<W.heap.size->b<W.heap.size/\W.heap[b]?=W.heap[b]?:=fun b _ hlt=>⟨hlt,rfl⟩
 rcases gR ho with⟨rfl,h0⟩|⟨g,cap,rfl,hg,hlt⟩
 ·obtain rfl:=ku h0;exact⟨none,0,rfl,none,0,fun _=>⟨0,⟨#[]⟩,none,0,0,none,0,0⟩,fun _=>⟨0,⟨#[]⟩,none,0,0,none,0,0⟩,rfl,aK _,.inl rfl,fun j hj=>by simp at hj⟩
 ·have yA:ps.length<=cap:=by
   rcases ho.2 with⟨e,_⟩|⟨g',cap',cur,e,_,_,h4⟩
   ·cases e
   ·injection e with _ _ e3;subst e3;exact h4.1
  refine⟨_,_,rfl,_,cap,fun j=>if h:j<qs.length then qs[j].1 else⟨0,⟨#[]⟩,none,0,0,none,0,0⟩,fun j=>if h:j<qs.length then qs[j].2 else⟨0,⟨#[]⟩,none,0,0,none,0,0⟩,rfl,yA,.inr ⟨g,0,rfl,hlt,fun j hj=>?_⟩,fun j hj=>?_⟩
  ·have sA:j<qs.length:=by omega
   simp only[dif_pos sA,Nat.zero_add];have C:=fun i (hi:i<8) u (hu:(P8 qs[j])[i]?=some u)=>ho.cells (g:=g) rfl _ _ ((zd7 qs j sA i hi).trans hu);have c0:=C 0 (by omega) _ rfl;have c1:=C 1 (by omega) _ rfl;have c2:=C 2 (by omega) _ rfl;have c3:=C 3 (by omega) _ rfl;have c4:=C 4 (by omega) _ rfl;have c5:=C 5 (by omega) _ rfl;have c6:=C 6 (by omega) _ rfl;have c7:=C 7 (by omega) _ rfl;rw[oy]at c0 c1 c2 c3 c4 c5 c6 c7;exact⟨c0,c1,c2,c3,c4,c5,c6,c7⟩
  ·have sA:j<qs.length:=by omega
   simp only[dif_pos sA];exact⟨(ht j sA hj).1.move hm,(ht j sA hj).2.move hm⟩
theorem qp.step{g cap:Nat}{ps:List (Fm×Fm)}{x:Fm×Fm}{w4:World}{qs:List (FQ×FQ)}{q:FQ×FQ}(hk:qs.length=ps.length)
  (ht:∀j (h:j<qs.length) (h2:j<ps.length),aC (fun b=>v.ownBlock≠some b) W qs[j].1.val ps[j].1/\aC (fun b=>v.ownBlock≠some b) W qs[j].2.val ps[j].2)
  (hq:aC (fun b=>v.ownBlock≠some b) W q.1.val x.1/\aC (fun b=>v.ownBlock≠some b) W q.2.val x.2)
  (aV:w4.ownsRow lo 50 8 (.slice (some ⟨g,0,none⟩) (ps.length+1) cap) (ps.length+1) (qs.flatMap P8++P8 q))
  (au:W.grownBy w4 v.ownBlock) (hg:v.ownBlock=some g\/W.heap.size<=g):qp lo (.slice (some ⟨g,0,none⟩) (ps.length+1) cap) (ps++[x]) w4:=by
 have vw:∀ c,v.ownBlock≠some c->c<W.heap.size->(Value.slice (some ⟨g,0,none⟩) (ps.length+1) cap).ownBlock≠some c/\w4.heap[c]?=W.heap[c]?:=fun c hn hc=>⟨fun e=>by
  injection e with e;obtain rfl:g=c:=e;rcases hg with hg|hg
  ·exact hn hg
  ·omega,au.block c hc (fun e=>hn e.symm)⟩
 exact qcb
theorem Sj:(prog.info? 50).map (fun i=>(i.zero,i.size,i.bytes))=some (some (.agg #[.int .u8 0,.string ByteArray.empty,.slice none 0 0,.slice none 0 0,.int .u8 0,.string ByteArray.empty,.slice none 0 0,.slice none 0 0]),8,144):=by kernel_rfl
theorem J2(ty:TypeId)(lo:Nat)(v:Value)(ps:List (Fm×Fm))(x:Fm×Fm)(W:World)(ea:qp lo v ps W)(hlo:lo<=W.heap.size)(hlen:ps.length<=1000000)(q:FQ×FQ)(b off c:Nat)
  (hcs:∀i u,(P8 q)[i]?=some u->W.cell? ⟨b,off+i,none⟩=some u) (hq:aC (fun b=>v.ownBlock≠some b) W q.1.val x.1/\aC (fun b=>v.ownBlock≠some b) W q.2.val x.2):
  ∃v' w',(Builtin.append_ #[22,22] ty #[v,.slice (some ⟨b,off,none⟩) 1 c]).run prog W=.ok v' w'/\qp lo v' (ps++[x]) w'/\W.grownBy w' v.ownBlock:=by
 obtain⟨i0,hi,oO,jv,iG⟩:=info_parts Sj;obtain⟨qs,hk,aE,ht⟩:=ea;obtain⟨g,cap,w',hr,h2,h3,h4,_⟩:=run_append_lies (P:=prog) W 22 ty lo 50 i0 _ 8 144 underlying22 hi oO jv iG rfl (by decide) v ps.length _ aE ⟨b,off,none⟩ 1 c (P8 q) rfl
  (fun j u hu=>by
    have:=hcs j u hu;rw[show(⟨b,off,none⟩:Addr).add j=⟨b,off+j,none⟩ by unfold Addr.add;split<;>simp_all];exact this) (fun u hu=>by
   simp only[P8,FQ.cells,lL,sw,dc,List.not_mem_nil,or_false]at hu;rcases hu with rfl|rfl|rfl|rfl|rfl|rfl|rfl|rfl<;>rfl) (by decide) (by unfold maxLen;omega) (by omega) hlo _ rfl
 exact⟨_,_,hr,qp.step hk ht hq h2 h3 (by rcases h4 with h|h;exact .inl h;exact .inr (by omega)),h3⟩
section
variable{ops:Array Oper}{Q:Exit->Act->World->Prop}{a0:Act}{l:List gL}{kA kS k:Nat}{M:Nat->Prop}{w0:World}{md:Region.Mode}{L:Nat->Prop}
theorem Wq(f f2:Fm)(x:Nat){gu:Option (Nat×Bool)}(hL:∀b,w0.heap.size<=b->L b){o:Oper}(hx:iP md ops a0 l kA kS M w0 k o x (Mo L f f2))(ho:ops[k]?=some o:=by rfl)(eo:o=⟨some d,.buildSlice 22 1 #[(0,.tmp x)],ty,pos,fw,gu⟩:=by rfl)(hw:Wt md ops a0 l kA kS M w0 k o:=by exact fun _ _ _ _=>rfl)(hp:e8 l k=(OI L [(f,f2)]).p:=by rfl):dC md ops Q a0 l kA kS M w0 k:=
 by subst eo;have hp:e8 l k=xj L [(f,f2)]:=hp;exact uw hw ho rfl (fun a γ w bq=>by
  obtain⟨vx,ex,q,r,rfl,hq,hr⟩:=hx a γ w bq;refine⟨.slice (some ⟨w.heap.size,0,none⟩) 1 1,#[.int .u8 q.o,.string q.n,.slice q.a q.l q.c,.slice q.b q.m q.e,.int .u8 r.o,.string r.n,.slice r.a r.l r.c,.slice r.b r.m r.e],50,by go_simp,?_⟩;rw[hp];have hx:=aq (w:=w) (o:=.cells #[.int .u8 q.o,.string q.n,.slice q.a q.l q.c,.slice q.b q.m q.e,.int .u8 r.o,.string r.n,.slice r.a r.l r.c,.slice r.b r.m r.e] 50) rfl;have C:=fun i=>aT hx i;refine⟨_,_,rfl,some ⟨w.heap.size,0,none⟩,1,fun _=>q,fun _=>r,rfl,aK _,.inr ⟨w.heap.size,0,rfl,nu.here hL bq.inv _,fun j hj=>?_⟩,fun j hj=>?_⟩
  ·obtain rfl:j=0:=by simpa using hj
   exact⟨(C 0).trans rfl,(C 1).trans rfl,(C 2).trans rfl,(C 3).trans rfl,(C 4).trans rfl,(C 5).trans rfl,(C 6).trans rfl,(C 7).trans rfl⟩
  ·obtain rfl:j=0:=by simpa using hj
   exact⟨hq.move (ml _).holds,hr.move (ml _).holds⟩)
end
section
variable{ops:Array Oper}{Q:Exit->Act->World->Prop}{a0:Act}{l:List gL}{kA kS k:Nat}{w0:World}{md:Region.Mode}{L:Nat->Prop}{id sz:Nat}{w:World}
abbrev Ob(ob:Option Nat):Nat->Prop:=fun c=>ob=some c
theorem zbR(h:∀b,ob=some b->b<w.heap.size):IG (Ob ob) w (ob,false) w:=⟨Kp.refl _,fun c e=>⟨.inr e,h c e⟩,fun _ hc=>⟨hc,fun _=>rfl⟩⟩
abbrev kAo(ob:Option Nat)(kS n:Nat):Nat:=if ob=none then kS else n
def zd8(lo:Nat)(ps:List (Fm×Fm)):gL:=⟨fun v γ w=>∃n,n<=w.heap.size/\qp lo v ps w/\(∀w',(∀c,c<n->w'.heap[c]?=w.heap[c]?)->qp lo v ps w')/\∀b,γ=(some b,false)->n<=b,fun v γ w eZ w' hG ⟨n,h0,h1,h2,h3⟩=>by
 rcases hG with⟨rfl,hb⟩|⟨hn,rfl,hlt,hb⟩|⟨b,rfl,rfl,hk⟩
 ·have he:∀c,c<n->w'.heap[c]?=w.heap[c]?:=fun c hc=>hb.block c (by omega);exact⟨n,aR h0 hb.size,h2 w' he,fun Iw h=>h2 Iw (fun c hc=>(h c hc).trans (he c hc)),h3⟩
 ·have he:∀c,c<n->w'.heap[c]?=w.heap[c]?:=fun c hc=>hb.block c (by omega);exact⟨n,aR h0 hb.size,h2 w' he,fun Iw h=>h2 Iw (fun c hc=>(h c hc).trans (he c hc)),fun b e=>by cases e;exact h0⟩
 ·have hn:=h3 b rfl;have he:∀c,c<n->w'.heap[c]?=w.heap[c]?:=fun c hc=>hk.same c (by omega) (by omega);exact⟨n,aR h0 hk.size,h2 w' he,fun Iw h=>h2 Iw (fun c hc=>(h c hc).trans (he c hc)),fun b e=>by cases e⟩⟩
theorem Zo(ps:List (Fm×Fm))(x:Fm×Fm)(lo:Nat)(v0:Value)(R:qp lo v0 ps w0)(hlo:lo<=w0.heap.size)(hlen:ps.length<=1000000)(s t:Nat){gu:Option (Nat×Bool)}(ho:ops[k]?=some o)(eo:o=⟨some d,.call ⟨.builtin .append,#[.tmp s,.tmp t],#[22,22]⟩,ty,pos,fw,gu⟩)(hk:k=kS)(RM:v0.ownBlock=none->k=kA)
  (hx:iP md ops a0 l kA kS (Ob v0.ownBlock) w0 k o s (fun v _ _=>v=v0)) (hy:iP md ops a0 l kA kS (Ob v0.ownBlock) w0 k o t (xj L [x])) (hw:Wt md ops a0 l kA kS (Ob v0.ownBlock) w0 k o:=by exact fun _ _ _ _=>rfl) (hp:e8 l k=(zd8 lo (ps++[x])).p:=by rfl):dC md ops Q a0 l kA kS (Ob v0.ownBlock) w0 k:=by
 subst eo;refine d_ ho rfl (fun _=>trivial) rfl (fun a γ w bq=>?_);obtain⟨vx,ex,rfl⟩:=hx a γ w bq;obtain⟨Qn,RW⟩:=γ;obtain rfl:RW=false:=bq.psi.2 hk;obtain⟨vy,ey,ac,cc,rfl,hyv⟩:=hy a _ w bq;have PX:∀c,c<w0.heap.size->w.heap[c]?=w0.heap[c]?:=fun c hc=>by
  by_cases hm:vx.ownBlock=some c
  ·exact(bq.inv.2.2 c hm).2 rfl
  ·exact bq.inv.1.same c hc hm
 have R':=R.kept PX;obtain⟨b,off,p,q,rfl,_,Rt,hq1,c0,c1,c2,c3,c4,c5,c6,c7⟩:=hyv.get (j:=0) (by simp);have jd:∀c,nu L (Qn,false) w c->c<w.heap.size->vx.ownBlock≠some c/\w.heap[c]?=w.heap[c]?:=fun c h _=>⟨fun e=>h.2.2 (bq.inv.2.2 c e).1,rfl⟩
 obtain ⟨v',w',hr,ea,au⟩:=J2 ty lo vx ps x w R' (aR hlo bq.inv.1.size) hlen (p,q) b off cc (fun i u hu=>by
  rcases i with _|_|_|_|_|_|_|_|i
  ·cases hu;simpa using c0
  ·cases hu;simpa using c1
  ·cases hu;simpa using c2
  ·cases hu;simpa using c3
  ·cases hu;simpa using c4
  ·cases hu;simpa using c5
  ·cases hu;simpa using c6
  ·cases hu;simpa using c7
  ·simp[P8,FQ.cells]at hu) ⟨Rt.move jd,hq1.move jd⟩
 have e1:=bL ex;have e2:=bL ey;have nj:(execOp a.eval ⟨some d,.call ⟨.builtin .append,#[.tmp s,.tmp t],#[22,22]⟩,ty,pos,fw,gu⟩).run prog w=.ok (.value v') w':=by
  simp only[execOp,resolve,invoke,builtin]at hr⊢;simp[hr,Result.andThen,Act.eval,e1,e2]
 cases ho2:vx.ownBlock with
 |none=>
  obtain rfl:Qn=none:=bq.psi.1 (RM ho2);rw[ho2]at au;refine⟨hw a _ w bq,v',_,w',nj,Gr.keep ⟨au.os,au.tape,au.output,au.size,fun c hc=>au.block c hc (by simp)⟩,fun _ _ h=>h,?_⟩;exact qfA
 |some c=>
  obtain rfl:Qn=some c:=(bq.inv.2.2 c ho2).1;rw[ho2]at au;refine⟨hw a _ w bq,v',(some c,true),w',nj,kn (Kp.grown au rfl),hk▸oX,?_⟩;exact qfA
end
end
def jt:gO->aj->Option aj
 |[],_=>none
 |(s,a)::r,x=>if s==x then some a else jt r x
mutual
def eb(fr:List aj)(c:gO):Fm->Fm
 |.mk o n a s=>.mk o (if br o then dy (fr++c.map (·.2))else n) (lr (fun x=>(jt c x).map bj) a) (nQ fr (if br o then(n,dy (fr++c.map (·.2)))::c else c) s)
def nQ(fr:List aj)(c:gO):List Fm->List Fm|[]=>[]|t::l=>eb fr c t::nQ fr c l
end
def ne(f:Fm):Fm×Int:=if bw f then(eb (aP [] f) [] f,0)else(oN,2)
theorem zA:∀(c:gO)(x y:aj),jt c x=some y->y∈c.map (·.2)
 |[],x,y,h=>by simp[jt]at h
 |(s,a)::r,x,y,h=>by
  unfold jt at h;split at h
  ·cases h;simp
  ·simp only[cM,dc];exact .inr (zA r x y h)
def QD(c:gO):Prop:=∀x∈c.map (·.2),fQ x=true
abbrev s8(c:gO):aj->Option Tm:=fun x=>(jt c x).map bj
mutual
theorem Wr(hc:QD c):∀t,jA false t=true->jA false (ep (s8 c) t)=true/\ap (ep (s8 c) t)=ap t/\dm (ep (s8 c) t)=dm t
 |.mk v n a,h=>by
  cases v
  ·simp only[jA,bR,↓reduceIte,ak]at h;obtain⟨h1,h2,h3⟩:=AL hc a h.2.2;have e:(lr (s8 c) a).length=a.length:=by rw[gJ];simp
   simp only[ep,bR,↓reduceIte,jA,ap,dm,h1,h2,h3,e,h.1,h.2.1,Bool.and_self,and_self]
  ·simp only[jA,↓reduceIte,ak,Bool.false_and,Bool.or_false]at h;have ha:a=[]:=by simpa using h.1
   subst ha;simp only[ep,↓reduceIte,s8]
   cases hl:jt c n with
   |none=>simp[jA,h.2,lr,ap,dm]
   |some y=>
    have hy:=hc y (zA c n y hl);simp[jA,bj,hy,ap,af,dm,bO]
theorem AL(hc:QD c):∀t,eD false t=true->eD false (lr (s8 c) t)=true/\af (lr (s8 c) t)=af t/\bO (lr (s8 c) t)=bO t
 |[],_=>⟨rfl,rfl,rfl⟩
 |t::l,h=>by
  simp only[eD,ak]at h;obtain⟨h1,h2,h3⟩:=Wr hc t h.1;obtain⟨g1,g2,g3⟩:=AL hc l h.2;simp only[lr,eD,af,bO,h1,h2,h3,g1,g2,g3,Bool.and_self,and_self]
end
theorem xA(fr:List aj)(c:gO):∀s,(nQ fr c s).length=s.length
 |[]=>rfl
 |t::l=>by simp[nQ,xA fr c l]
mutual
theorem Fl(fr:List aj):∀(f:Fm)(c:gO),QD c->fr.length+c.length+ag f<10^13->gF false f=true->gF false (eb fr c f)=true/\ag (eb fr c f)=ag f/\a_ (eb fr c f)=a_ f
 |.mk o n a s,c,hc,hl,h=>by
  have ho:(o !=16)=true:=by
   rw[bne_iff_ne];rintro rfl;simp only[gF,Bool.false_and,Bool.or_false,ak]at h;have:=h.1;revert this;decide
  have h0:=h;simp only[gF,Bool.false_and,Bool.or_false,ak]at h;simp only[ag]at hl;obtain⟨h1,h2,h3⟩:=AL hc a h.2.2.2.1;have e1:(lr (s8 c) a).length=a.length:=by rw[gJ];simp
  by_cases hq:br o=true
  ·have hv:fQ (dy (fr ++ c.map (·.2)))=true:=Rz (by simp;omega);obtain ⟨g1,g2,g3⟩:=AM fr s ((n,dy (fr ++ c.map (·.2))) :: c) (fun x hx=>by
    rcases dc.1 hx with rfl|hx
    ·exact hv
    ·exact hc x hx) (by simp;omega) h.2.2.2.2
   have hn:rj (eE o).2.2.1 (dy (fr++c.map (·.2)))=true:=by
    have gY:o=8\/o=9:=by simpa[br]using hq
    rcases gY with rfl|rfl<;>exact hv
   simp only[eb,hq,↓reduceIte,gF,ag,a_,h1,h2,h3,g1,g2,g3,ho,hn,e1,xA,Bool.false_and,Bool.or_false,ak,Bool.true_or,and_self];exact⟨⟨h.1,⟨trivial,h.2.1.2⟩,trivial⟩,trivial⟩
  ·obtain⟨g1,g2,g3⟩:=AM fr s c hc (by omega) h.2.2.2.2;simp only[eb,hq,bR,↓reduceIte,gF,ag,a_,h1,h2,h3,g1,g2,g3,ho,e1,xA,Bool.false_and,Bool.or_false,ak,Bool.true_or,and_self];exact⟨⟨h.1,h.2.1,trivial⟩,trivial⟩
theorem AM(fr:List aj):∀(f:List Fm)(c:gO),QD c->fr.length+c.length+ah f<10^13->dJ false f=true->dJ false (nQ fr c f)=true/\ah (nQ fr c f)=ah f/\bl (nQ fr c f)=bl f
 |[],_,_,_,_=>⟨rfl,rfl,rfl⟩
 |t::l,c,hc,hl,h=>by
  simp only[dJ,ak]at h;simp only[ah]at hl;obtain⟨h1,h2,h3⟩:=Fl fr t c hc (by omega) h.1;obtain⟨g1,g2,g3⟩:=AM fr l c hc (by omega) h.2;simp only[nQ,dJ,ah,bl,h1,h2,h3,g1,g2,g3,Bool.and_self,and_self]
end
structure Ws(fr:List aj)(c:gO)(σ ρ:aj->Dt):Prop where
 s:∀z y,jt c z=some y->σ y=ρ z
 n:∀z,jt c z=none->z∈fr->σ z=ρ z
mutual
theorem Wu(h:Ws fr c σ ρ):∀t,(∀z∈aL t,jt c z=none->z∈fr)->iH σ (ep (s8 c) t)=iH ρ t
 |.mk v n a,hz=>by
  cases v
  ·simp only[aL,bR,↓reduceIte]at hz;simp only[ep,bR,↓reduceIte,iH,AN h a hz]
  ·simp only[aL,↓reduceIte]at hz;simp only[ep,↓reduceIte,s8]
   cases hl:jt c n with
   |none=>simp only[Option.map_none,iH,↓reduceIte];exact h.n n hl (hz n (fT ..) hl)
   |some y=>simp only[Option.map_some,bj,iH,↓reduceIte];exact h.s n y hl
theorem AN(h:Ws fr c σ ρ):∀t,(∀z∈aF t,jt c z=none->z∈fr)->dP σ (lr (s8 c) t)=dP ρ t
 |[],_=>rfl
 |t::l,hz=>by
  simp only[aF,List.mem_append]at hz;simp only[lr,dP,Wu h t (fun z hm=>hz z (.inl hm)),AN h l (fun z hm=>hz z (.inr hm))]
end
mutual
theorem MF:∀(f:Fm)(c:gO)(σ ρ:aj->Dt)(d:Nat),fr.length+c.length+ag f<10^13->Ws fr c σ ρ->(∀z∈aP [] f,jt c z=none->z∈fr)->li σ d (eb fr c f)=li ρ d f
 |.mk o n a s,c,σ,ρ,d,hl,h,hz=>by
  simp only[ag]at hl;have ha:=AN h a (fun z hm=>hz z (rI hm))
  by_cases hq:br o=true
  ·have hm:=qK (fr++c.map (·.2)) (by simp;omega);have⟨m,he⟩:=az (dy (fr++c.map (·.2)));rw[<-he]at hm;simp only[List.mem_append,not_or]at hm;have h':Ws fr ((n,m)::c) (jP σ m (.lvl d)) (jP ρ n (.lvl d)):=by
    refine⟨fun z y hy=>?_,fun z hy hf=>?_⟩
    ·unfold jt at hy;split at hy<;>rename_i e
     ·cases hy;rw[ef]at e;subst e;simp[jP]
     ·have e1:(y==m)=false:=by
       rw[Bool.eq_false_iff];intro e1;rw[ef]at e1;exact hm.2 (e1▸zA c z y hy)
      have an:=();exact qfB
    ·unfold jt at hy;split at hy<;>rename_i e
     ·cases hy
     ·have e1:(z==m)=false:=by
       rw[Bool.eq_false_iff];intro e1;rw[ef]at e1;exact hm.1 (e1▸hf)
      exact qfB
   have hs:=AO s ((n,m) :: c) _ _ (d+1) (by simp;omega) h' (fun z jv iG=>by
    unfold jt at iG;split at iG<;>rename_i e
    ·cases iG
    ·exact hz z (rH hq jv (fun e2=>e (by simp[e2]))) iG)
   simp only[eb,hq,↓reduceIte,li,<-he,ha,hs]
  ·have hs:=AO s c σ ρ d (by omega) h (fun z jv iG=>hz z (by
    simp only[aP,hq,bR,↓reduceIte,List.mem_append];exact .inr jv) iG)
   simp only[eb,hq,bR,↓reduceIte,li,ha,hs]
theorem AO:∀(f:List Fm)(c:gO)(σ ρ:aj->Dt)(d:Nat),fr.length+c.length+ah f<10^13->Ws fr c σ ρ->(∀z∈bK [] f,jt c z=none->z∈fr)->fv σ d (nQ fr c f)=fv ρ d f
 |[],_,_,_,_,_,_,_=>rfl
 |t::l,c,σ,ρ,d,hl,h,hz=>by
  simp only[ah]at hl;simp only[bK,List.mem_append]at hz;simp only[nQ,fv,MF t c σ ρ d (by omega) h (fun z hm=>hz z (.inl hm)),AO l c σ ρ d (by omega) h (fun z hm=>hz z (.inr hm))]
end
theorem xC(h:bw f=true):bw (eb (aP [] f) [] f)=true/\db (eb (aP [] f) [] f)=db f:=by
 have an:=();exact qfC
theorem zB:∀l:List (Fm×Fm),(∀x∈l,(eS x.1&&bw x.2)=true)->oI l (l.map fun x=>(x.1,eb (aP [] x.2) [] x.2))
 |[],_=>trivial
 |(s,f)::l,h=>by
  have h1:=h _ (fT ..);simp only at h1;have h2:=h1;simp only[ak]at h2;obtain⟨n1,n2⟩:=xC h2.2;exact⟨rfl,n2.symm,h1,by rw[n1];exact by simp[h2.1],zB l (fun x hx=>h x (fS _ hx))⟩
def eU(l:List (Fm×Fm)):List (Fm×Fm):=l.map fun x=>(x.1,eb (aP [] x.2) [] x.2)
theorem MG:∀(l:List (Fm×Fm))(i:Nat),(∀x∈l,bw x.2=true)->eT i (eU l)=eT i l
 |[],_,_=>rfl
 |(s,f)::l,i,h=>by
  have h1:=h _ (fT ..);simp only at h1;have ih:=MG l (i+1) (fun x hx=>h x (fS _ hx));unfold eU at ih⊢;simp only[cM,eT,(xC h1).1,h1,ih]
theorem MH{l:List (Fm×Fm)}(h:∀x∈l,bw x.2=true):
  (bm l b).2=(bm (eU l) b).2/\qU (bm l b).1.fs (bm (eU l) b).1.fs/\(bm l b).1.ts=(bm (eU l) b).1.ts/\bF (bm l b).1=true/\bF (bm (eU l) b).1=true:=by
 have hb:=MG l 0 h;have he:bF ⟨[],[]⟩=true:=by decide
 by_cases hv:bF b=true
 ·cases hc:eT 0 l with
  |none=>
   have:=(gx l 0).1 hc;exact JA (zB l this) hv
  |some i=>
   have e1:bm l b=(⟨[],[]⟩,i,2):=by unfold bm;rw[hv,hc];rfl
   have e2:bm (eU l) b=(⟨[],[]⟩,i,2):=by unfold bm;rw[hv,hb,hc];rfl
   rw[e1,e2];exact⟨rfl,trivial,rfl,he,he⟩
 ·have hv:bF b=false:=by simpa using hv
  have e1:∀l,bm l b=(⟨[],[]⟩,0,2):=fun l=>by unfold bm;rw[hv];rfl
  rw[e1,e1];exact⟨rfl,trivial,rfl,he,he⟩
section
attribute [local go_sem] Oper.semAt_some
theorem OZ{x:aj}(h:m<c.length):jt (c.drop m) x=if c[m].1==x then some c[m].2 else jt (c.drop (m+1)) x:=by
 rw[iL h];rfl
theorem MI(c:gO)(hc:c.length<=2000000)(B:Nat)(v:Value)(n:aj)(w:World)(hB:w.cell? ⟨B,0,none⟩=some v)(hp:cw w v c.reverse):
  Calls prog 155 #[.string ⟨n.toArray⟩,.pointer (some ⟨B,0,none⟩)] w fun e w'=>(∃q:TQ,e=.returned (.tuple #[q.val,.bool (s8 c n).isSome])/\∀u,s8 c n=some u->aN (fun _=>True) w' q.val u)/\Below w.heap.size w w':=by
 obtain⟨a,n1,cp,rfl⟩:∃a n1 cp,v=.slice a n1 cp:=by obtain⟨a,cap,rfl,_⟩:=hp;exact⟨_,_,_,rfl⟩
 have eB:n1=c.length:=by rw[hp.len,List.length_reverse]
 have⟨W1,cC⟩:=az (w.alloc (.cells #[.bool false,.string ⟨#[]⟩,.slice none 0 0] 43));have hb1:=dj cC;have x1:=cA cC;have e0:=aa hb1 hB;have HP:=ae (hp.later hb1);have⟨HN,HB,HX⟩:=cU eB hb1 x1;have zhs:n1<=2000000:=by omega
 have kf:=ae cC;rw[cC]at e0;clear hb1 hp hB eB cC x1 hc;go_enter func155,ntmps155;go_wp2;rw[<-kf.o];rw[<-kf.o]at e0;go_loopw [5] (fun i wr=>∃k m:Nat,k+m=n1/\i=.int .i64 ((k:Int)-1)/\jt c n=jt (c.drop m) n/\wr=W1) (fun i _=>(intOf i+1).toNat)
 case atStart=>exact⟨n1,0,rfl,rfl,rfl,rfl⟩
 case round=>
  obtain⟨k,m,lj,rfl,hlk,rfl⟩:=hrel;obtain⟨t0,t1,t2,z0,z1,z2⟩:=ir HX.o
  by_cases hk:k=0
  ·subst hk;have hm:m=n1:=by omega
   have ν:jt c n=none:=by rw[hlk,hm,HN.o,List.drop_length];rfl
   have Bl:=ae ν;clear hlk ν;go_wp2;obtain⟨W8,kM,x8,k8,g0,g1,g2⟩:=sT HX.o (.bool false) (.string ⟨#[]⟩) (.slice none 0 0);rw[<-kM];refine bX (v:=.tuple #[TQ.val ⟨false,⟨#[]⟩,none,0,0⟩,.bool false]) (by simp[TQ.val,results,results155,go_sem,g0,g1,g2]) rfl ⟨⟨⟨false,⟨#[]⟩,none,0,0⟩,by simp[s8,Bl.o],fun u hu=>by simp[s8,Bl.o]at hu⟩,Below.kp1 HB.o k8 (aK _)⟩
  ·obtain⟨j,rfl⟩:∃j,k=j+1:=⟨k-1,by omega⟩;have Xk:(((j+1:Nat):Int)-1)=(j:Int):=by omega
   have te:m<c.length:=by rw[<-HN.o];omega
   have lG:j<c.reverse.length:=by rw[List.length_reverse,<-HN.o];omega
   rw[OZ te]at hlk;have hcm:c.reverse[j]=c[m]:=by
    rw[List.getElem_reverse];congr 1;have:=HN.o;omega
   have hg:=HP.o.get lG;rw[hcm]at hg;obtain⟨⟨s,r⟩,hsr⟩:∃z,z=c[m]:=⟨_,rfl⟩;rw[<-hsr]at hg hlk;obtain⟨pb,po,rfl,c0,c1⟩:=hg;simp only at c0 c1 hlk;have C7:(j:Int)<(n1:Int):=by omega
   have GP:(0:Int)<=(j:Int):=by omega
   rw[Xk];clear hcm hsr Xk
   by_cases hs:s=n
   ·subst hs;have Kd:jt c s=some r:=by rw[hlk];simp
    have HSo:=ae Kd;clear hlk Kd;go_wp2;obtain⟨W8,kM,x8,k8,g0,g1,g2⟩:=sT HX.o (.bool true) (.string ⟨r.toArray⟩) (.slice none 0 0);rw[<-kM];refine bX (v:=.tuple #[TQ.val ⟨true,⟨r.toArray⟩,none,0,0⟩,.bool true]) (by simp[TQ.val,results,results155,go_sem,g0,g1,g2]) rfl ⟨⟨⟨true,⟨r.toArray⟩,none,0,0⟩,by simp[s8,HSo.o],fun u hu=>?_⟩,Below.kp1 HB.o k8 (aK _)⟩;simp only[s8,HSo.o,Option.map_some,dn]at hu;subst hu;exact aW.2 ⟨_,rfl,cE⟩
   ·have a4:(s==n)=false:=by simpa using hs
    rw[a4]at hlk;have HLk:=ae hlk;clear hlk;go_wp2;go_roundw
    case rel=>exact⟨j,m+1,by omega,rfl,by rw[HLk.o];rfl,trivial⟩
    case measure=>simp[intOf]
theorem J3(c:gO)(hc:c.length<=2000000)(B:Nat)(v:Value)(W:World)(hB:W.cell? ⟨B,0,none⟩=some v)(hp:cw W v c.reverse):PB 155 #[.pointer (some ⟨B,0,none⟩)] (s8 c) W:=
 fun n w _ hb=>MI c hc B v n w (aa hb hB) (hp.later hb)
theorem O0(c:gO)(hc:∀x∈c,x.2.length<=2000000):zcB (s8 c):=fun n u hu ok W q hq=>by
 unfold s8 at hu
 cases h:jt c n with
 |none=>rw[h]at hu;cases hu
 |some r=>
  rw[h]at hu;simp only[Option.map_some,dn]at hu;subst hu;have hr:=zA c n r h;obtain⟨x,hx,rfl⟩:=List.mem_map.1 hr;have hx2:=hc x hx;exact G4 (bj x.2) ⟨by simp[bj,ap,af],by simp[bj,kI,d8,hx2]⟩ ok W q hq
theorem MJ(c:gO)(hc:c.length<=2000000)(wM:∀x∈c,x.2.length<=2000000)(B:Nat)(v:Value)(Wb:World)(hB:Wb.cell? ⟨B,0,none⟩=some v)(hp:cw Wb v c.reverse)(t:Tm)(hf:e7 t)(ok:Nat->Prop)(w:World)(q:TQ)(hb:Below Wb.heap.size Wb w)(hq:aN ok w q.val t):
  Calls prog 154 #[q.val,.func (.func 155) #[] #[.pointer (some ⟨B,0,none⟩)]] w fun e w'=>(∃p:TQ,e=.returned p.val/\aN (w.heap.size<=·) w' p.val (ep (s8 c) t))/\Below w.heap.size w w':=
 wJ _ _ (enters_of func155 (by kernel_rfl) rfl) (s8 c) Wb (J3 c hc B v Wb hB hp) (O0 c wM) t hf ok w q hb hq
end
section
attribute [local go_sem] Oper.semAt_some run_makeMap
theorem Fo(fr:List aj)(c:gO):∀l,nQ fr c l=l.map (eb fr c)
 |[]=>rfl
 |t::l=>by simp[nQ,Fo fr c l]
theorem cw.keep{a:Option Addr}{c:Nat}{ps:List (aj×aj)}(h:cw W (.slice a n c) ps)(hk:∀b o,a=some ⟨b,o,none⟩->ps≠[]->b<W.heap.size->W'.heap[b]?=W.heap[b]?):cw W' (.slice a n c) ps:=by
 obtain⟨a',cap,hv,yA,h⟩:=h;injection hv with h1 h2 h3;subst h1;refine⟨a,cap,by rw[h2,h3],yA,?_⟩;rcases h with h|⟨b,off,ha,hc⟩
 ·exact .inl h
 ·exact .inr ⟨b,off,ha,fun j hj=>by
   have hb:=hk b off ha (List.ne_nil_of_length_pos (by omega)) (World.block_lt_of_cell? W _ (hc j hj).1);exact⟨du hb (hc j hj).1,du hb (hc j hj).2⟩⟩
theorem cw.old{a:Option Addr}{c:Nat}{ps:List (aj×aj)}(h:cw W (.slice a n c) ps):∀b o,a=some ⟨b,o,none⟩->ps≠[]->b<W.heap.size:=by
 obtain⟨a',cap,hv,yA,h⟩:=h;injection hv with h1 h2 h3;subst h1;rintro b o rfl hps;rcases h with⟨h,_⟩|⟨b',off,ha,hc⟩
 ·exact absurd h hps
 ·injection ha with ha;injection ha with ha;subst ha;exact World.block_lt_of_cell? W _ (hc 0 (jR.2 hps)).1
theorem AP{M:Nat->Prop}{w X Y:World}(h:Below w.heap.size w X)(k:Kp M X Y)(hM:∀b,M b->w.heap.size<=b):Below w.heap.size w Y:=
 ⟨k.os.trans h.os,k.tape.trans h.tape,k.output.trans h.output,aR h.size k.size,fun b hb=>(k.same b (bP hb h.size) (fun hm=>by have:=hM b hm;omega)).trans (h.block b hb)⟩
theorem np.ext{xs ys:List aj}(h:np W m n xs)(he:∀x,x∈xs↔x∈ys):np W m n ys:=by
 obtain⟨D,h1,h2,h3⟩:=h;exact⟨D,h1,fun x=>(h2 x).trans (he x),fun x hx=>h3 x ((he x).2 hx)⟩
theorem O1(W0:World):∀(t:Fm),cJ t->∀(fr:List aj)(c:gO)(ok:Nat->Prop)(w:World)(q:FQ)(mf nf:Nat)(av:Value),gG W0 w->aC ok w q.val t->np w mf nf fr->cw w av c.reverse->fr.length<=4000000->c.length+ag t<=2000000->(∀x∈c,x.2.length<=2000000)→
  Calls prog 89 #[q.val,.map (some mf),av] w fun e w'=>(∃p:FQ,e=.returned p.val/\aC (w.heap.size<=·) w' p.val (eb fr c t))/\Below w.heap.size w w':=by
 exact qaU
end
section
attribute [local go_sem] Oper.semAt_some
theorem O2(W0:World)(t:Fm)(aI:cJ t)(ok:Nat->Prop)(w:World)(hT:gG W0 w)(q:FQ)(hq:aC ok w q.val t):
  Calls prog 43 #[q.val] w fun e w'=>(∃p:FQ,e=.returned (.tuple #[p.val,.int .i64 (ne t).2])/\aC (w.heap.size<=·) w' p.val (ne t).1)/\Below w.heap.size w w':=by
 have hq:=hq.lt;obtain⟨qo,qn,qa,ql,qc,qb,qm,qe⟩:=q;have⟨W2,bp⟩:=az ((w.alloc (.cells #[.int .u8 qo,.string qn,.slice qa ql qc,.slice qb qm qe] 36)).alloc (.cells #[.int .u8 0,.string ⟨#[]⟩,.slice none 0 0,.slice none 0 0] 36));have bU:=mo bp;have x0:=sx bp;have x1:=kv bp;have C1:=oJ W0 t aI _ W2 (hT.next bU) ⟨qo,qn,qa,ql,qc,qb,qm,qe⟩ (hq.later bU);have⟨uW,gh,cQ⟩:=cU C1 bp bU;have HX:=aM x0 x1;have⟨HQ,HT,HF⟩:=cU hq hT aI;clear C1 bp bU x0 x1 hq hT aI;unfold FQ.val
 cases hr:bw t with
 |false=>
  have HN:=ae (show ne t=(oN,2) by simp[ne,hr]);rw[hr]at uW;simp only[FQ.val]at uW;rw[gh.o]at uW;clear hr;go_enter func43,ntmps43;go_wp2_with (go_at_call 39;refine uW.o.mono ?_;rintro e w3 ⟨rfl,aS⟩;rw[<-gh.o]at aS;have y1:=bY aS HX.o.2;obtain⟨c0,c1,c2,c3,z0,z1,z2,z3⟩:=dw y1;have H3:=aM aS y1;clear aS y1);obtain⟨W6,dr,x6,k6,g0,g1,g2,g3⟩:=tP H3.o.2 (.int .u8 0) (.string ⟨#[]⟩) (.slice none 0 0) (.slice none 0 0)
  try rw[<-dr]
  refine bX (v:=.tuple #[FQ.val ⟨0,⟨#[]⟩,none,0,0,none,0,0⟩,.int .i64 2]) (by simp[FQ.val,results,results43,go_sem,g0,g1,g2,g3]) rfl ⟨⟨⟨0,⟨#[]⟩,none,0,0,none,0,0⟩,by rw[HN.o];rfl,by rw[HN.o];exact aX.2 ⟨_,_,rfl,cE,iE⟩⟩,Below.kp1 (cQ.o.tr H3.o.1) k6 (by omega)⟩
 |true=>
  have HN:=ae (show ne t=(eb (aP [] t) [] t,0) by simp[ne,hr]);have G':ag t<=400:=by simp only[bw,ak,bM]at hr;exact hr.2.1
  rw[hr]at uW;simp only[FQ.val]at uW;rw[gh.o]at uW;clear hr;have qY:(aP [] t).length<=400:=aR (fI t []) G';have⟨WM,HN4⟩:=bi qY G';clear qY G';go_enter func43,ntmps43;go_wp2_with (go_at_call 39;refine uW.o.mono ?_;rintro e w3 ⟨rfl,aS⟩;rw[<-gh.o]at aS;have y0:=bY aS HX.o.1;have y1:=bY aS HX.o.2;have H3:=bS (cQ.o.tr aS) y0 y1;clear aS y0 y1);have jq:=fP;refine(wpIn_wide (n:=3)).1 ?_;have qok:=();exact qa0
end
theorem Fp{P:aj×Tm->Prop}(x:aj)(v:Tm):∀l:List (aj×Tm),(∀y∈l,P y)->P (x,v)->∀y∈iB x v l,P y
 |[],_,hv,y,hy=>by simp only[iB,dc,List.not_mem_nil,or_false]at hy;rw[hy];exact hv
 |(z,u)::r,hl,hv,y,hy=>by
  unfold iB at hy;split at hy
  ·rcases dc.1 hy with rfl|hy
   ·exact hv
   ·exact hl y hy
  ·rcases dc.1 hy with rfl|hy
   ·exact hl _ (fT ..)
   ·exact Fp x v r (fun y hy=>hl y (fS _ hy)) hv y hy
def Ip(k:List (aj×Tm)):Prop:=∀y∈k,ap y.2<=1000
mutual
theorem Iq(sc:List aj):∀(t u:Tm)(k k':List (aj×Tm)),Ip k->ap u<=1000->dY sc k t u=some k'->Ip k'
 |.mk v n a,.mk v' n' a',k,k',hk,hu,h=>by
  unfold dY at h
  by_cases hm:(v&&eA n)=true
  ·rw[aG hm]at h
   cases hg:bG k n with
   |none=>
    rw[hg]at h;simp only[dn]at h;subst h;exact Fp n _ k hk hu
   |some w=>
    exact qck
  ·rw[aw hm]at h;exact qcl
theorem Fq(sc:List aj):∀(t u:List Tm)(k k':List (aj×Tm)),Ip k->af u<=1000->cY sc k t u=some k'->Ip k'
 |[],u,k,k',hk,_,h=>by simp only[cY,dn]at h;rw[<-h];exact hk
 |_::_,[],k,k',hk,_,h=>by simp only[cY,dn]at h;rw[<-h];exact hk
 |t::l,u::w,k,k',hk,hu,h=>by
  simp only[cY]at h;simp only[af]at hu
  cases h1:dY sc k t u with
  |none=>rw[h1]at h;cases h
  |some k1=>
   rw[h1]at h;exact Fq sc l w k1 k' (Iq sc t u k k1 hk (by omega) h1) (by omega) h
end
theorem Ir:∀(t u:List Tm)(k k':List (aj×Tm)),Ip k->(∀x∈u,∀im,iO c [] x=some im->ap im<=1000)->dB c k t u=some k'->Ip k'
 |[],u,k,k',hk,_,h=>by simp only[dB,dn]at h;rw[<-h];exact hk
 |_::_,[],k,k',hk,_,h=>by simp only[dB,dn]at h;rw[<-h];exact hk
 |t::l,u::w,k,k',hk,hu,h=>by
  simp only[dB]at h
  cases h0:iO c [] u with
  |none=>rw[h0]at h;cases h
  |some im=>
   rw[h0]at h;simp only at h
   cases h1:dY (c.map (·.1)) k t im with
   |none=>rw[h1]at h;cases h
   |some k1=>
    rw[h1]at h;exact Ir l w k1 k' (Iq _ t im k k1 hk (hu u (fT ..) im h0) h1) (fun x hx=>hu x (fS _ hx)) h
theorem O3{k:Bd}(hp:mr p)(hk:Ip k.ts):Ip (bc k p).1.ts:=by
 unfold bc
 by_cases gq:p.s.op=16
 ·rw[aG gq];exact hk
 ·rw[aw gq]
  by_cases kL:p.s.op=15
  ·rw[aG kL]
   cases f9 p.c [] p.f with
   |none=>exact hk
   |some im=>
    simp only
    cases bG k.fs p.s.n with
    |none=>exact hk
    |some g=>
     simp only;split
     ·exact hk
     ·exact hk
  ·rw[aw kL];split
   ·exact hk
   ·cases ha:dB p.c k.ts p.s.a p.f.a with
    |none=>exact hk
    |some ts=>exact Ir p.s.a p.f.a k.ts ts hk (fun x hx im h=>(Hj hp hx h).2) ha
theorem Zs{k:Bd}(hp:mr p)(hk:Ip k.ts):Ip (dE k p).1.ts:=by
 unfold dE;split
 ·exact hk
 ·cases bG k.fs p.s.n with
  |none=>exact hk
  |some g=>
   simp only
   cases hi:f9 p.c [] p.f with
   |none=>exact hk
   |some im=>
    simp only;have hg:=Eb hp hi;split
    ·split
     ·exact hk
     ·exact hk
    ·cases bG k.ts (bx p.s).2 with
     |some t=>
      simp only;split
      ·exact hk
      ·split
       ·exact hk
       ·exact hk
     |none=>
      simp only
      cases hf:fG g im (bx p.s).1 with
      |none=>exact hk
      |some t=>
       have ht:=Fp (P:=fun y=>ap y.2<=1000) (bx p.s).2 t k.ts hk (Ea hg.ok hg.nodes hf).2;simp only[Option.map_some];split
       ·exact ht
       ·split
        ·exact ht
        ·exact ht
theorem Wv{step:Bd->Pl->Bd×Int}(hs:∀k p,mr p->Ip k.ts->Ip (step k p).1.ts){m:List aj}(hn:∀k p,mr p->jL k m->(∀x∈iU p.s,x∈m)->jL (step k p).1 m):∀(l:List Pl)(k:Bd),(∀p∈l,mr p/\∀x∈iU p.s,x∈m)->Ip k.ts->jL k m->Ip (ek step k l).1.ts/\jL (ek step k l).1 m
 |[],k,_,h1,h2=>⟨h1,h2⟩
 |p::l,k,h,h1,h2=>by
  obtain⟨hp,hm⟩:=h p (fT ..);have a:=hs k p hp h1;have b:=hn k p hp h2 hm;simp only[ek];split
  ·exact Wv hs hn l _ (fun q hq=>h q (fS _ hq)) a b
  ·exact⟨a,b⟩
theorem J4{step:Bd->Pl->Bd×Int}(hs:∀k p,mr p->Ip k.ts->Ip (step k p).1.ts){m:List aj}(hn:∀k p,mr p->jL k m->(∀x∈iU p.s,x∈m)->jL (step k p).1 m):∀(l:List (Fm×Fm))(i:Nat)(k:Bd),(∀x∈l,(eS x.1&&bw x.2)=true/\∀y∈iU x.1,y∈m)->Ip k.ts->jL k m->Ip (dt step i k l).1.ts/\jL (dt step i k l).1 m
 |[],_,k,_,h1,h2=>⟨h1,h2⟩
 |(s,f)::l,i,k,h,h1,h2=>by
  obtain⟨hp,hm⟩:=h (s,f) (fT ..);have hr:=Wv hs hn (bC [] s f) k (fun p hp'=>⟨mM s f [] (tH hp) p hp',fun x hx=>hm x (zy s f [] p hp' x hx)⟩) h1 h2;simp only[dt];split
  ·exact J4 hs hn l _ _ (fun x hx=>h x (fS _ hx)) hr.1 hr.2
  ·exact hr
mutual
theorem O4:∀t,(xq t).length<=ap t
 |.mk v n a=>by
  have:=uB a;unfold xq ap;split<;>simp <;>omega
theorem uB:∀t,(kt t).length<=af t
 |[]=>by simp[kt]
 |t::l=>by
  have:=O4 t;have:=uB l;simp only[kt,af,ei];omega
end
mutual
theorem Fr:∀t,(iU t).length<=ag t
 |.mk o n a s=>by
  have:=uB a;have:=BV s;unfold iU ag;split<;>simp <;>omega
theorem BV:∀t,(sq t).length<=ah t
 |[]=>by simp[sq]
 |t::l=>by
  have:=Fr t;have:=BV l;simp only[sq,ah,ei];omega
end
mutual
theorem Sk:∀t,ap t<=_Z t
 |.mk v n a=>by have:=xD a;unfold ap _Z;omega
theorem xD:∀t,af t<=zs t
 |[]=>by simp[af]
 |t::l=>by have:=Sk t;have:=xD l;simp only[af,zs];omega
end
mutual
theorem Sl:∀t,ag t<=Xc t
 |.mk o n a s=>by have:=xD a;have:=sr s;unfold ag Xc;omega
theorem sr:∀t,ah t<=zt t
 |[]=>by simp[ah]
 |t::l=>by have:=Sl t;have:=sr l;simp only[ah,zt];omega
end
theorem Ft:∀{l:List Fm}{f:Fm},f∈l->ag f<=ah l
 |y::c,f,h=>by
  simp only[ah];rcases dc.1 h with rfl|h
  ·omega
  ·have:=Ft h;omega
theorem BW:∀l:List (Fm×Fm),(l.flatMap fun x=>iU x.1).length<=ah (cP l)
 |[]=>by simp[cP]
 |x::l=>by
  have h1:=BW l;have h2:=Fr x.1;simp only[List.flatMap_cons,ei,cP,lL,sw,ah]at h1⊢;omega
theorem O5(h:pt b=true)(aI:jp (mm b.fs++nG b.ts)):j9 b/\b.fs.length<=10/\b.ts.length<=10:=by
 simp only[pt,ak,bM]at h;obtain⟨h1,h2,h3⟩:=h;have hsz:=BR h3;have hnd:=sr (mm b.fs++nG b.ts);have jQ:∀x∈b.fs,x.2∈mm b.fs++nG b.ts/\Fm.mk 1 x.1 [] []∈mm b.fs++nG b.ts:=fun x hx=>by
  refine⟨List.mem_append.2 (.inl ?_),List.mem_append.2 (.inl ?_)⟩<;>exact List.mem_flatMap.2 ⟨x,hx,by simp⟩
 have sK:∀x∈b.ts,Fm.mk 1 x.1 [x.2] []∈mm b.fs++nG b.ts:=fun x hx=>List.mem_append.2 (.inr (List.mem_map.2 ⟨x,hx,rfl⟩));refine⟨⟨by omega,by omega,fun x hx=>?_,fun x hx=>?_⟩,h1,h2⟩
 ·have a:=aI.mem (jQ x hx).1;have c:=(aI.mem (jQ x hx).2).2;simp only[mI,ak,bM]at c;exact⟨c.2.1,a⟩
 ·have a:=aI.mem (sK x hx);have c:=a.2;have d:=Ft (sK x hx);simp only[mI,d8,ak,bM]at c;simp only[ag,af]at d;exact⟨c.2.1,⟨by omega,c.2.2.1.1⟩,by omega⟩
theorem Zt{l:List (Fm×Fm)}(h:JX l=true):l.length<=8/\ah (cP l)<=500:=by
 simp only[JX,ak,bM]at h;have h2:=h.2;rw[gB (by omega)]at h2;have a:=BR h2;have b:=sr (cP l);exact⟨h.1,by omega⟩
theorem vW{l:List (Fm×Fm)}{k:Bd}(h:bm l b=(k,i,0))(hl:ah (cP l)<=500)(hb:j9 b)(h1:b.fs.length<=10)(h2:b.ts.length<=10):j9 k:=by
 have CX:=FX h;obtain⟨hvb,hok,_,_,_⟩:=Dn h;have⟨m,hm⟩:=az (b.fs.map (·.1)++(b.ts.map (·.1)++l.flatMap fun x=>iU x.1));have te:m.length<=520:=by
  have:=BW l;rw[hm];simp only[ei,List.length_map];omega
 have hk:Ip k.ts/\jL k m:=by
  have hx:∀ x∈l,(eS x.1 && bw x.2)=true/\∀ y∈iU x.1,y∈m:=fun x hx=>⟨hok x hx,fun y hy=>by
   rw[hm];exact List.mem_append.2 (.inr (List.mem_append.2 (.inr (List.mem_flatMap.2 ⟨x,hx,hy⟩))))⟩
  have SH:Ip b.ts:=fun y hy=>(hb.ts y hy).2.2;have wE:jL b m:=⟨fun x hx=>by rw[hm];exact List.mem_append.2 (.inl hx),fun x hx=>by rw[hm];exact List.mem_append.2 (.inr (List.mem_append.2 (.inl hx)))⟩;have p1:=J4 (step:=bc) (fun k p=>O3) (fun k p=>Gq) l 0 b hx SH wE;unfold bm at h;simp only[hvb,Bool.not_true,bR,↓reduceIte,(gx l 0).2 hok]at h
  cases e1:dt bc 0 b l with
  |mk k1 x1=>
   obtain⟨i1,r1⟩:=x1;rw[e1]at h p1;simp only at h;split at h
   ·rename_i jd;exact qfD
   ·have p2:=J4 (step:=dE) (fun k p=>Zs) (fun k p=>Wj) l 0 k1 hx p1.1 p1.2
    cases e2:dt dE 0 k1 l with
    |mk k2 x2=>
     obtain⟨i2,r2⟩:=x2;rw[e2]at h p2;simp only at h;split at h
     ·rename_i jd;exact qfD
     ·injection h with h _;subst h;exact p2
 have ll:=CX;simp only[bF,ak]at ll;have l1:=Cy _ m (jZ (mX ll.2.1)) hk.2.f;have l2:=Cy _ m (jZ (mX ll.2.2)) hk.2.t;simp only[List.length_map]at l1 l2;refine⟨by omega,by omega,fun x hx=>?_,fun x hx=>?_⟩
 ·have a:=PP CX x hx;exact⟨by have:=wP a.2;omega,a.1.fit⟩
 ·have a:=CO CX hk.1 x hx;exact⟨by have:=iI a.2;omega,a.1.fit,hk.1 x hx⟩
theorem isE{b c:Bool}(h:b=c):(mZ (.bool c)).p=(mZ (.bool b)).p:=by rw[h]
theorem BZ{l:List (Fm×Fm)}{k:Bd}{e:Int}(h:bm l b=(k,i,e))(he:e≠0):k=⟨[],[]⟩:=by
 unfold bm at h;split at h
 ·cases h;rfl
 ·split at h
  ·cases h;rfl
  ·split at h;split at h
   ·cases h;rfl
   ·split at h;split at h
    ·cases h;rfl
    ·cases h;exact absurd rfl he
theorem Fu{l:List (Fm×Fm)}{x:Fm×Fm}(h:x∈l):x.1∈cP l/\x.2∈cP l:=by
 simp only[cP,List.mem_flatMap];exact⟨⟨x,h,by simp⟩,⟨x,h,by simp⟩⟩
theorem Sm(h:bw f=true):cJ f:=by
 have h1:=h;simp only[bw,ak,bM]at h1;exact⟨by omega,iR (by omega) f (jC _ h1.1)⟩
theorem MK:∀{l l':List (aj×Fm)},qU l l'->l.length=l'.length
 |[],[],_=>rfl
 |[],_::_,h=>h.elim
 |_::_,[],h=>h.elim
 |(_,_)::l,(_,_)::l',h=>by simp[MK h.2.2]
theorem QE:∀{l l':List (aj×Fm)},qU l l'->∀k (h:k<l.length) (h':k<l'.length),l[k].1=l'[k].1/\db l[k].2=db l'[k].2
 |[],[],_,k,h,_=>absurd h (by simp)
 |[],_::_,h,_,_,_=>h.elim
 |_::_,[],h,_,_,_=>h.elim
 |(_,_)::l,(_,_)::l',h,0,_,_=>⟨h.1,h.2.1⟩
 |(_,_)::l,(_,_)::l',h,k+1,h1,h2=>QE h.2.2 k (by simpa using h1) (by simpa using h2)
theorem O6(h:bw f=true):ag (eb (aP [] f) [] f)=ag f:=by
 exact qfC
theorem qX:∀l:List (Fm×Fm),(∀x∈l,bw x.2=true)->ah (cP (eU l))=ah (cP l)
 |[],_=>rfl
 |(s,f)::l,h=>by
  have h1:=h _ (fT ..);have ih:=qX l (fun x hx=>h x (fS _ hx));have h2:=O6 h1;simp only[eU,cP]at ih⊢;simp only[cM,List.flatMap_cons,lL,sw,ah,ih,h2]
theorem Ww{l:List (Fm×Fm)}(h:∀x∈l,bw x.2=true)(hf:∀x∈l,cJ x.1/\cJ x.2):∀x∈eU l,cJ x.1/\cJ x.2:=fun x hx=>by
 obtain⟨y,hy,rfl⟩:=List.mem_map.1 hx;exact⟨(hf y hy).1,Sm (xC (h y hy)).1⟩
theorem zC(h:bw (bI f)=true):ag f<=400:=by
 simp only[bw,ak,bM]at h;rw[<-(ja f).1];exact h.2.1
theorem Sn{l:List (Fm×Fm)}(h:i<l.length):eU (l.take (i+1))=eU (l.take i)++[(l[i].1,eb (aP [] l[i].2) [] l[i].2)]:=by
 rw[lq h];simp only[eU,List.map_append,cM,List.map_nil]
section
attribute [local go_sem] Oper.semAt_some
structure π(x y:Bd):Prop where
 hx1:x.fs.length<=1000000
 hx2:x.ts.length<=1000000
 hfx:∀f∈x.fs,cJ f.2/\ag f.2<=500000
 hfy:∀f∈y.fs,cJ f.2/\ag f.2<=500000
 htx:∀t∈x.ts,e7 t.2
 hl:x.fs.length=y.fs.length
 hf:∀k (h:k<x.fs.length) (h':k<y.fs.length),x.fs[k].1=y.fs[k].1/\AK x.fs[k].2 y.fs[k].2=true
 hts:x.ts=y.ts
theorem B0{k:Bd}(h:bF k=true):∀f∈k.fs,bw (bI f.2)=true:=fun f hf=>by
 obtain⟨h1,_⟩:=(fp k).1 h;simp only[ZP,ak,List.all_eq_true]at h1;exact(h1.1 f hf).2
theorem O7{l:List (Fm×Fm)}{b kd υ:Bd}{ri So:Nat}{er Sp:Int}(hr:∀x∈l,bw x.2=true)(h1:bm l b=(kd,ri,er))(h2:bm (eU l) b=(υ,So,Sp))(hn:ah (cP l)<=500)(hb:j9 b)(hb1:b.fs.length<=10)(bU:b.ts.length<=10):So=ri/\Sp=er/\π kd υ:=by
 obtain⟨g1,g2,g3,g4,g5⟩:=MH (b:=b) hr;simp only[h1,h2]at g1 g2 g3 g4 g5;obtain⟨rfl,rfl⟩:=Prod.mk.inj g1;have hk:j9 kd/\j9 υ:=by
  by_cases he:er=0
  ·subst he;exact⟨vW h1 hn hb hb1 bU,vW h2 (by rw[qX l hr];exact hn) hb hb1 bU⟩
  ·rw[BZ h1 he,BZ h2 he];exact⟨m4,m4⟩
 have hl:=MK g2;have r1:=B0 g4;have r2:=B0 g5;refine⟨rfl,rfl,by have:=hk.1.lf;omega,by have:=hk.1.lt;omega,fun f hf=>⟨(hk.1.fs f hf).2,by have:=zC (r1 f hf);omega⟩,fun f hf=>⟨(hk.2.fs f hf).2,by have:=zC (r2 f hf);omega⟩,fun t ht=>(hk.1.ts t ht).2.1,hl,fun k h h'=>?_,g3⟩;obtain⟨f1,f2⟩:=QE g2 k h h';exact⟨f1,ME (r1 _ (aH h)) (r2 _ (aH h')) f2⟩
section
variable{ops:Array Oper}{Q:Exit->Act->World->Prop}{a0:Act}{l:List gL}{kA kS k:Nat}{M:Nat->Prop}{w0:World}{md:Region.Mode}{L:Nat->Prop}{id sz:Nat}{w:World}
theorem Sq(f g:Fm)(er:Int)(hR:ne f=(g,er))(hf:cJ f)(x:Nat){gu:Option (Nat×Bool)}(hT:gG Wb w0)(hM:∀b,M b->Wb.heap.size<=b)(hL:∀b,w0.heap.size<=b->L b)(hx:iP md ops a0 l kA kS M w0 k o x (gV L f))(ho:ops[k]?=some o:=by rfl)(eo:o=⟨some d,.call ⟨.value (.func 43),#[.tmp x],Cs⟩,ty,pos,fw,gu⟩:=by rfl)(hw:Wt md ops a0 l kA kS M w0 k o:=by exact fun _ _ _ _=>rfl)(hp:e8 l k=(Mp (fY L g) [.int .i64 er]).p:=by rfl):dC md ops Q a0 l kA kS M w0 k:=
 by subst eo;exact fF hw ho rfl 43 (fun a γ w bq=>by
  obtain⟨vx,ex,fx⟩:=hx.is bq;obtain⟨qx,rfl,hx⟩:=fx;refine⟨#[qx.val],by go_simp,(O2 Wb f hf _ w (hT.kp bq.inv.1 hM) qx hx).mono ?_⟩;rw[hR];rintro e w' ⟨⟨u,rfl,hu⟩,hb⟩;exact⟨⟨_,rfl,by rw[hp];exact⟨_,rfl,u,rfl,hu.move (nu.new bq.inv (fun b hb=>hL b (aR bq.inv.1.size hb)))⟩⟩,hb⟩)
theorem Zu(f f2:Bd)(H:π f f2)(x y:Nat)(hT:gG Wb w0)(hM:∀b,M b->Wb.heap.size<=b){gu:Option (Nat×Bool)}(hx:iP md ops a0 l kA kS M w0 k o x (l_ L f))(hy:iP md ops a0 l kA kS M w0 k o y (l_ L f2))(ho:ops[k]?=some o:=by rfl)(eo:o=⟨some d,.call ⟨.value (.func 44),#[.tmp x,.tmp y],Cs⟩,ty,pos,fw,gu⟩:=by rfl)(hw:Wt md ops a0 l kA kS M w0 k o:=by exact fun _ _ _ _=>rfl)(hp:e8 l k=(mZ (.bool true)).p:=by rfl):dC md ops Q a0 l kA kS M w0 k:=
 by subst eo;exact fF hw ho rfl 44 (fun a γ w bq=>by
  obtain⟨vx,ex,fx⟩:=hx.is bq;obtain⟨vy,ey,fy⟩:=hy.is bq;obtain⟨qx,rfl,hx⟩:=fx;obtain⟨qy,rfl,hy⟩:=fy;refine⟨#[qx.val,qy.val],by go_simp,(J1 Wb f f2 H.hx1 H.hx2 H.hfx H.hfy H.htx H.hl H.hf H.hts _ _ w (hT.kp bq.inv.1 hM) qx qy hx hy).mono ?_⟩;rintro e w' ⟨rfl,hb⟩;exact⟨⟨_,rfl,by rw[hp];rfl⟩,hb⟩)
theorem J5(hb:∀b,ob=some b->b<w.heap.size)(F:List gL)(kS:Nat)(hsz:a0.tmps.size=sz)(hd:Km ops sz=true)(hm:(prog.follows .mixedOrders&&ops.toList.all nh)=true)(cV:∀k,k<ops.size->dC .any ops (NP Q) a0 F (kAo ob kS ops.size) kS (Ob ob) w.drew k)
  (hQ:∀a γ w',pj ops a0 F (kAo ob kS ops.size) kS (Ob ob) w.drew a γ w'->Q .normal a w'):(Code.region id ops true).wpIn Fence.wide 3 prog Q a0 w:=
 kZ _ _ _ Gr (ob,false) hm hsz hd (zbR hb) (fun k hk=>⟨fun e=>by
  by_cases ho:ob=none
  ·exact ho
  ·rw[kAo,aw ho]at e;omega,fun _=>rfl⟩) (fun _ _ _ _ hG h=>h.step hG) (ur F) cV hQ
end
def sRa:Code->Code|.seq _ b=>b|c=>c
def drA(c:Code):Nat->Code|0=>c|n+1=>sRa (drA c n)
abbrev AlQ(w:World):Exit->Act->World->Prop:=bodyPost prog Tryz.f10 fun e w'=>e=.returned (.bool true)/\Below w.heap.size w w'
abbrev ML(n:Nat):Nat->Prop:=fun c=>c<n
theorem LB.weakA{L:Nat->Prop}{w:World}{b:Nat}{f:Bd}(h:LB L a w d b q f):LB X0 a w d b q f:=⟨h.slot,h.box,h.val.move (fun _ h _=>⟨⟨trivial,h.2⟩,rfl⟩)⟩
theorem LB.ltA{L:Nat->Prop}{w:World}{b:Nat}{f:Bd}(h:LB L a w d b q f)(hn:w.heap.size<=n):LB (ML n) a w d b q f:=⟨h.slot,h.box,h.val.move (fun _ h hlt=>⟨⟨bP hlt hn,h.2⟩,rfl⟩)⟩
structure AlP(l:List (Fm×Fm))(bd:Bd):Prop where
 hl8:l.length<=8
 hnd:ah (cP l)<=500
 hps:∀x∈l,cJ x.1/\cJ x.2
 hbd:j9 bd
 h1:bd.fs.length<=10
 h2:bd.ts.length<=10
structure AlH(w0:World)(la:Option Addr)(lc:Nat)(l:List (Fm×Fm))(bd:Bd)(b3:Nat)(a:Act)(W:World):Prop where
 hs:a.tmps.size=79
 hd:a.defers=[]
 HB:Below w0.heap.size w0 W
 t0:a.tmps[0]?=some (.slice la l.length lc)
 t5:a.tmps[5]?=some (.slice none 0 0)
 B3:∃q,LB X0 a W 3 b3 q bd
 P0:dZ (mt X0 W) W (.slice la l.length lc) l
structure AlJ(w0:World)(la:Option Addr)(lc:Nat)(ra:Option Addr)(rc:Nat)(l:List (Fm×Fm))(bd:Bd)(b3:Nat)(a:Act)(W:World):Prop where
 hs:a.tmps.size=79
 hd:a.defers=[]
 HB:Below w0.heap.size w0 W
 t0:a.tmps[0]?=some (.slice la l.length lc)
 t5:a.tmps[5]?=some (.slice ra (eU l).length rc)
 B3:∃q,LB X0 a W 3 b3 q bd
 P0:dZ (mt X0 W) W (.slice la l.length lc) l
 P5:dZ (mt X0 W) W (.slice ra (eU l).length rc) (eU l)
structure AlC(w0:World)(la:Option Addr)(lc:Nat)(l:List (Fm×Fm))(bd:Bd)(b3:Nat)(q3:BQ)(N i:Nat)(v5:Value)(a:Act)(W:World):Prop where
 hs:a.tmps.size=79
 hd:a.defers=[]
 HB:Below w0.heap.size w0 W
 t6:a.tmps[6]?=some (.int .i64 i)
 t5:a.tmps[5]?=some v5
 t0:a.tmps[0]?=some (.slice la l.length lc)
 B3:LB (ML N) a W 3 b3 q3 bd
 P0:dZ (mt (ML N) W) W (.slice la l.length lc) l
 R5:qp N v5 (eU (l.take i)) W
theorem zgo(WB w:World)(mY:gG WB w)(l:List (Fm×Fm))(bd:Bd)(hP:AlP l bd)(hr:∀x∈l,bw x.2=true)(la:Option Addr)(lc:Nat)(ra:Option Addr)(rc b3:Nat):∀a W,AlJ w la lc ra rc l bd b3 a W->Code.wpIn Fence.wide 3 prog (drA ((Tryz.f10.body).getD .skip) 5) (AlQ w) a W:=by
 rintro a W ⟨hs,hd,HB,t0,t5,⟨q3,B3⟩,P0,P5⟩;have mv:∀c,cf c->WB.heap.size<=c:=fun _ h=>h.elim;have jK:∀c,X0 c->¬cf c:=fun _ _ h=>h;have hL:∀{u:World}(c),u.heap.size<=c->X0 c:=fun _ _=>trivial;have hbd:=hP.hbd;have hl8:=hP.hl8;have hps:=hP.hps;have zgp:(eU l).length<=8:=by simpa[eU]using hl8
 have zgq:=Ww hr hps;obtain⟨kd,ri,er,hM⟩:∃kd ri er,bm l bd=(kd,ri,er):=⟨_,_,_,rfl⟩;obtain⟨υ,So,Sp,hM2⟩:∃υ So Sp,bm (eU l) bd=(υ,So,Sp):=⟨_,_,_,rfl⟩;obtain⟨rfl,rfl,HL⟩:=O7 hr hM hM2 hP.hnd hbd hP.h1 hP.h2;have hT:=mY.next HB;refine dD (fun zgr χ=>?_);refine dv [_,_,_,_,_,_,_,_,_,_,_] 7 8 hs (by kernel_rfl) (fun|0,_=>uA l 0 la lc P0 jK (qj t0)|1,_=>B3.ld|2,_=>ph _ _ _ _ _ hM hl8 hps hbd 53 54 hT mv hL (aZ 0) (aZ 1)|3,_=>cz _ 55 (aZ 2)|4,_=>jI _ _ 52 (aZ 3)|5,_=>jl (jH X0 kd) [.int .i64 (So:Nat),.int .i64 Sp] 0 (.int .i64 (So:Nat)) rfl 52 (aZ 3)|6,_=>jl (jH X0 kd) [.int .i64 (So:Nat),.int .i64 Sp] 1 (.int .i64 Sp) rfl 52 (aZ 3)|7,_=>oK rfl|8,_=>oL _ 9 56 rfl (aZ 7) (aZ 4)|9,_=>xm _ 57 (aZ 5)|10,_=>xm _ 58 (aZ 6)|k+11,hk=>nk hk) fun A13 γ pB h=>?_;obtain⟨R6,Y6,jk⟩:=h.n3 hs hd HB;replace B3:=B3.nz h;replace t0:=h.ol 0 t0;replace t5:=h.ol 5 t5;replace P0:=P0.move (mt.next (L':=X0) h.inv.1 jK (fun _ h _=>h));replace P5:=P5.move (mt.next (L':=X0) h.inv.1 jK (fun _ h _=>h));obtain⟨b9,q9,B9⟩:=h.mkB 7 8 9;clear hT hs hd HB;have t10:=h.gv 9 10;have t11:=h.gv 10 11;clear h;refine χ _ _ ?_;clear χ zgr;clear P0 t0;have hT:=mY.next jk;refine dD (fun zgs ψ=>?_);refine dv [_,_,_,_,_,_,_,_,_,_,_] 7 8 R6 (by kernel_rfl) (fun|0,_=>uA (eU l) 5 ra rc P5 jK (qj t5)|1,_=>B3.ld|2,_=>ph _ _ _ _ _ hM2 zgp zgq hbd 60 61 hT mv hL (aZ 0) (aZ 1)|3,_=>cz _ 62 (aZ 2)|4,_=>jI _ _ 59 (aZ 3)|5,_=>jl (jH X0 υ) [.int .i64 (So:Nat),.int .i64 Sp] 0 (.int .i64 (So:Nat)) rfl 59 (aZ 3)|6,_=>jl (jH X0 υ) [.int .i64 (So:Nat),.int .i64 Sp] 1 (.int .i64 Sp) rfl 59 (aZ 3)|7,_=>oK rfl|8,_=>oL _ 12 63 rfl (aZ 7) (aZ 4)|9,_=>xm _ 64 (aZ 5)|10,_=>xm _ 65 (aZ 6)|k+11,hk=>nk hk) fun A14 γ W14 h=>?_;obtain⟨R7,Y7,R8⟩:=h.n3 R6 Y6 jk;replace B3:=B3.nz h;replace B9:=B9.nz h;replace t5:=h.ol 5 t5;replace t10:=h.ol 10 t10;replace t11:=h.ol 11 t11;replace P5:=P5.move (mt.next (L':=X0) h.inv.1 jK (fun _ h _=>h));obtain⟨b12,q12,_p⟩:=h.mkB 7 8 12;clear hT R6 Y6 jk;have TY:=h.gv 9 13;have t14:=h.gv 10 14;clear h;refine ψ _ _ ?_;clear ψ zgs;clear P5 t5 B3;have hT:=mY.next R8;refine dD (fun zhu zeh=>?_);refine dv [_,_,_,_,_,_,_,_,_,_,_,_,_,_] 14 14 R7 (by kernel_rfl) (fun|0,_=>iK _ 10 (qj t10)|1,_=>iK _ 13 (qj TY)|2,_=>Wg .i64 ((So:Nat):Int) ((So:Nat):Int) true (by simp) 66 67 (aZ 0) (aZ 1)|3,_=>iK _ 68 (aZ 2)|4,_=>iK _ 11 (qj t11) (hw:=wd 3)|5,_=>iK _ 14 (qj t14) (hw:=wd 3)|6,_=>Wg .i64 Sp Sp true (by simp) 70 71 (aZ 4) (aZ 5) (hw:=wd 3)|7,_=>Wf _ _ 69 72 (aZ 3) (aZ 6)|8,_=>iK _ 73 (aZ 7)|9,_=>B9.ld (hw:=wd 8)|10,_=>_p.ld (hw:=wd 8)|11,_=>Zu _ _ HL 75 76 hT mv (aZ 9) (aZ 10) (hw:=wd 8)|12,_=>Wf _ _ 74 77 (aZ 8) (aZ 11)|13,_=>xm _ 78 (aZ 12)|k+14,hk=>nk hk) fun A15 γ _X h=>?_;obtain⟨zbD,zbE,VZ⟩:=h.n3 R7 Y7 R8;replace B9:=B9.nz h;replace _p:=_p.nz h;replace t10:=h.ol 10 t10;replace t11:=h.ol 11 t11;replace TY:=h.ol 13 TY;replace t14:=h.ol 14 t14;clear hT R7 Y7 R8;have tr:=h.gv 13 4;refine zeh _ _ ?_;refine wpIn_ret ?_
 try simp only[Exit.then]
 exact bX (v:=.bool true) (by simp[results,results10,go_sem,tr]) zbE ⟨rfl,VZ⟩
theorem al5(WB w:World)(mY:gG WB w)(l:List (Fm×Fm))(bd:Bd)(hP:AlP l bd)(la:Option Addr)(lc b3:Nat):∀a W,AlH w la lc l bd b3 a W->Code.wpIn Fence.wide 3 prog (drA ((Tryz.f10.body).getD .skip) 4) (AlQ w) a W:=by
 rintro a W ⟨hs,hd,HB,t0,t5,⟨q3,B3⟩,P0⟩;have mv:∀c,cf c->WB.heap.size<=c:=fun _ h=>h.elim;have jK:∀c,X0 c->¬cf c:=fun _ _ h=>h;have hL:∀{u:World}(c),u.heap.size<=c->X0 c:=fun _ _=>trivial;have hl8:=hP.hl8;have hps:=hP.hps;have hT:=mY.next HB;refine dD (fun K6a zgt=>?_);refine dD (fun K6b zei=>?_);refine dv [_] 1 1 hs (by kernel_rfl) (fun|0,_=>Ih (.int .i64 0)|k+1,hk=>nk hk) fun A6 γ W6 h=>?_;obtain⟨Re,hd6,NX⟩:=h.n3 hs hd HB;replace B3:=B3.nz h;replace t0:=h.ol 0 t0;replace t5:=h.ol 5 t5;replace P0:=P0.move (mt.next (L':=X0) h.inv.1 jK (fun _ h _=>h));clear hT hs hd HB;have t6:=h.gv 0 6;clear h;refine zei _ _ ?_;clear zei K6b;have⟨N,hN⟩:=az W6.heap.size;have hNw:w.heap.size<=N:=by rw[hN];exact NX.size
 have aS:b3<N:=by rw[hN];exact(bQ B3.box)
 replace B3:=B3.ltA (n:=N) (by omega);replace P0:dZ (mt (ML N) W6) W6 (.slice la l.length lc) l:=P0.move (fun _ h hlt=>⟨⟨by show _<N;omega,h.2⟩,rfl⟩);have R5:qp N (.slice none 0 0) (eU (l.take 0)) W6:=by simpa[eU]using qp.nil N W6
 refine wpIn_block ?_;refine wpIn_loop (fun a W=>∃i v5,i<=l.length/\N<=W.heap.size/\(∀x∈l.take i,bw x.2=true)/\AlC w la lc l bd b3 q3 N i v5 a W) (fun a _=>l.length-(intOf (a.tmps.getD 6 undef)).toNat) ⟨0,_,bn _,by omega,fun x hx=>by simp at hx,⟨Re,hd6,NX,t6,t5,t0,B3,P0,R5⟩⟩ ?_;clear Re hd6 NX t6 t5 t0 B3 P0 R5;rintro a W ⟨i,v5,hi,hNW,Mf,⟨hs,hd,HB,t6,t5,t0,B3,P0,R5⟩⟩;rw[bL t6]
 by_cases hlt:i<l.length
 case pos=>
  have Xa:decide ((i:Int)<(l.length:Int))=true:=by simp;omega
  have hd0:decide ((i:Int)<0)=false:=by simp
  have hT:=mY.next HB;refine dD (fun K7a zbZ=>?_);refine dD (fun K7b Zv=>?_);refine dv [_,_,_,_] 4 4 hs (by kernel_rfl) (fun|0,_=>iK _ 6 (qj t6)|1,_=>iK _ 0 (qj t0)|2,_=>jJ rfl 26 (.int .i64 l.length) (aZ 1)|3,_=>lF rfl 25 27 (.bool true) (aZ 0) (aZ 2)|k+4,hk=>nk hk) fun A7 γ W7 h=>?_;obtain⟨WT,hd7,_P⟩:=h.n3 hs hd HB;replace B3:=B3.nz h;replace t0:=h.ol 0 t0;replace t5:=h.ol 5 t5;replace t6:=h.ol 6 t6;replace P0:=P0.move (mt.next (L':=(ML N)) h.inv.1 (fun _ _ h=>h) (fun _ h _=>h));replace R5:=R5.kept (fun c hc=>h.inv.1.same c hc (fun h=>h));have hk7:=h.inv.1;clear hT hs hd HB;have tc:=h.gv 3 28;clear h;refine Zv _ _ ?_;refine wpIn_cond_true (bL tc) (wpIn_skip ?_);refine zbZ _ _ ?_;clear zbZ Zv K7a K7b tc;refine dD (fun Kq hKq=>?_);refine wpIn_block ?_;have aE:=R5.lt;have HNW:N<=W7.heap.size:=aR hNW hk7.size;obtain⟨gb,go,p,q,WG,Z3,hp,hq,c0,c1,c2,c3,c4,c5,c6,c7⟩:=P0.get hlt;obtain⟨⟨f,f2⟩,η⟩:∃x,x=l[i]:=⟨_,rfl⟩;rw[<-η]at hp hq;simp only at hp hq;have SD:=hps _ (aH hlt);rw[<-η]at SD;simp only at SD;have Jl:=t0;rw[WG]at Jl;obtain⟨L,hL'⟩:∃L:Nat->Prop,L=fun c=>v5.ownBlock≠some c:=⟨_,rfl⟩;have hqL:aC (mt L W7) W7 q.val f2:=hq.move (fun c h _=>⟨⟨by rw[hL'];exact fun e=>by have:=(aE c e).1;have:c<N:=h.1;omega,h.2⟩,rfl⟩);have hnN:∀c,c<N->¬Ob v5.ownBlock c:=fun c h e=>by have:=(aE c e).1;omega
  have hgN:¬Ob v5.ownBlock gb:=hnN gb Z3.1;have hLO:∀c,L c->¬Ob v5.ownBlock c:=fun c h e=>by rw[hL']at h;exact h e
  have hLN:∀c,L c->¬cf c:=fun _ _ h=>h;have hLn:∀c,W7.heap.size<=c->L c:=fun c h=>by rw[hL'];exact fun e=>by have:=(aE c e).2;omega
  have BK:(eU (l.take i)).length<=1000000:=by simp[eU];omega
  obtain⟨g,er,hNm⟩:∃g er,ne f2=(g,er):=⟨_,_,rfl⟩;have hT:=mY.next _P;refine dD (fun K9a zej=>?_);refine dv [_,_,_,_,_,_,_,_,_,_,_,_] 9 10 WT (by kernel_rfl) (fun|0,_=>iK _ 0 (qj Jl)|1,_=>iK _ 6 (qj t6)|2,_=>lF rfl 32 33 (.pointer (some ⟨gb,go+i*8,none⟩)) (aZ 0) (aZ 1)|3,_=>jJ rfl 34 (.pointer (some ⟨gb,go+i*8+4,none⟩)) (aZ 2)|4,_=>QC f2 35 gb (go+i*8+4) q hqL c4 c5 c6 c7 (fun h=>h) hLN (aZ 3)|5,_=>Sq _ _ _ hNm SD.2 36 hT mv hLn (aZ 4)|6,_=>cz _ 37 (aZ 5)|7,_=>jI _ _ 31 (aZ 6)|8,_=>jl (fY L (g)) [.int .i64 er] 0 (.int .i64 er) rfl 31 (aZ 6)|9,_=>lD rfl|10,_=>lE _ 7 38 rfl (aZ 9) (aZ 7)|11,_=>xm _ 39 (aZ 8)|k+12,hk=>nk hk) fun A9 γ W9 h=>?_;obtain⟨Y3,hd9,Y4⟩:=h.n3 WT hd7 _P;replace B3:=B3.nz h;replace t0:=h.ol 0 t0;replace t5:=h.ol 5 t5;replace t6:=h.ol 6 t6;replace P0:=P0.move (mt.next (L':=(ML N)) h.inv.1 (fun _ _ h=>h) (fun _ h _=>h));replace R5:=R5.kept (fun c hc=>h.inv.1.same c hc (fun h=>h));have hk9:=h.inv.1;clear hT WT hd7 _P;obtain⟨vz,tz,fz⟩:=h.get 9 _ 7 rfl rfl;obtain⟨b7,q7,F7,hge⟩:=uy tz fz (h.did 10 _ rfl rfl) h.inv;replace F7:=F7.next (L':=L) rfl (Kp.refl (M:=cf) _) (fun h=>h) (fun _ _ h=>h) (fun _ h _=>h.1);have h7O:¬Ob v5.ownBlock b7:=fun e=>by have:=(aE b7 e).2;omega
  clear vz tz fz hge;have t8:=h.gv 11 8;clear h hqL;refine zej _ _ ?_;clear zej K9a
  by_cases hr:bw f2=true
  case neg=>
   have he:er=2:=by simp only[ne,hr,bR,↓reduceIte]at hNm;exact(Prod.mk.inj hNm).2.symm
   subst he;have hT:=mY.next Y4;refine dD (fun zek Wx=>?_);refine dD (fun zel QF=>?_);refine dv [_,_] 2 2 Y3 (by kernel_rfl) (fun|0,_=>iK _ 8 (qj t8)|1,_=>Wh .i64 2 0 true rfl 40 (aZ 0)|k+2,hk=>nk hk) fun A10 γ lB h=>?_;obtain⟨Gp,OO,JR⟩:=h.n3 Y3 hd9 Y4;replace B3:=B3.nz h;replace F7:=F7.next (L':=L) (h.od 7) h.inv.1 (fun h=>h) (fun _ _ h=>h) (fun _ h _=>h);replace t0:=h.ol 0 t0;replace t5:=h.ol 5 t5;replace t6:=h.ol 6 t6;replace t8:=h.ol 8 t8;replace P0:=P0.move (mt.next (L':=(ML N)) h.inv.1 (fun _ _ h=>h) (fun _ h _=>h));replace R5:=R5.kept (fun c hc=>h.inv.1.same c hc (fun h=>h));have zg:=h.inv.1;clear hT Y3 hd9 Y4;have tc:=h.gv 1 41;clear h;refine QF _ _ ?_;refine wpIn_cond_true (bL tc) ?_;have hT:=mY.next JR;refine dD (fun zhv zem=>?_);refine dv [_] 1 1 Gp (by kernel_rfl) (fun|0,_=>Ih (.bool true)|k+1,hk=>nk hk) fun A11 γ zf h=>?_;obtain⟨U1,zby,Y5⟩:=h.n3 Gp OO JR;replace B3:=B3.nz h;replace F7:=F7.next (L':=L) (h.od 7) h.inv.1 (fun h=>h) (fun _ _ h=>h) (fun _ h _=>h);replace t0:=h.ol 0 t0;replace t5:=h.ol 5 t5;replace t6:=h.ol 6 t6;replace t8:=h.ol 8 t8;replace P0:=P0.move (mt.next (L':=(ML N)) h.inv.1 (fun _ _ h=>h) (fun _ h _=>h));replace R5:=R5.kept (fun c hc=>h.inv.1.same c hc (fun h=>h));clear hT Gp OO JR;have tr:=h.gv 0 4;refine zem _ _ ?_;refine wpIn_ret ?_
   try simp only[Exit.then,Exit.inBlock]
   exact bX (v:=.bool true) (by simp[results,results10,go_sem,tr]) zby ⟨rfl,Y5⟩
  have hN2:g=eb (aP [] f2) [] f2/\er=0:=by simp only[ne,hr,↓reduceIte]at hNm;exact⟨(Prod.mk.inj hNm).1.symm,(Prod.mk.inj hNm).2.symm⟩
  obtain⟨WH,rfl⟩:=hN2;clear hNm;have hT:=mY.next Y4;refine dD (fun zek Wx=>?_);refine dD (fun zel QF=>?_);refine dv [_,_] 2 2 Y3 (by kernel_rfl) (fun|0,_=>iK _ 8 (qj t8)|1,_=>Wh .i64 0 0 false rfl 40 (aZ 0)|k+2,hk=>nk hk) fun A10 γ lB h=>?_;obtain⟨Gp,OO,JR⟩:=h.n3 Y3 hd9 Y4;replace B3:=B3.nz h;replace F7:=F7.next (L':=L) (h.od 7) h.inv.1 (fun h=>h) (fun _ _ h=>h) (fun _ h _=>h);replace t0:=h.ol 0 t0;replace t5:=h.ol 5 t5;replace t6:=h.ol 6 t6;replace t8:=h.ol 8 t8;replace P0:=P0.move (mt.next (L':=(ML N)) h.inv.1 (fun _ _ h=>h) (fun _ h _=>h));replace R5:=R5.kept (fun c hc=>h.inv.1.same c hc (fun h=>h));have zg:=h.inv.1;clear hT Y3 hd9 Y4;have tc:=h.gv 1 41;clear h;refine QF _ _ ?_;refine wpIn_cond_false (bL tc) (wpIn_skip ?_);refine Wx _ _ ?_;clear Wx QF zek zel tc t8;clear Jl hp hq Z3 hgN c0 c1 c2 c3 c4 c5 c6 c7 WG;obtain⟨gb,go,p,q,WG,Z3,hp,hq,c0,c1,c2,c3,c4,c5,c6,c7⟩:=P0.get hlt;rw[<-η]at hp;simp only at hp;have Jl:=t0;rw[WG]at Jl;have hgN:¬Ob v5.ownBlock gb:=hnN gb Z3.1;have hpL:aC (mt L lB.drew) lB.drew p.val f:=hp.move (show iN (mt (ML N) lB) (mt L lB.drew) lB lB.drew from fun c h _=>⟨⟨by rw[hL'];exact fun e=>by have:=(aE c e).1;have:c<N:=h.1;omega,h.2⟩,rfl⟩);have F7d:=F7.drew;have B3d:=B3.drew;have R5d:qp N v5 (eU (l.take i)) lB.drew:=R5.kept (W':=lB.drew) (fun _ _=>rfl);have P0d:dZ (mt (ML N) lB.drew) lB.drew (.slice la l.length lc) l:=P0.move (show iN (mt (ML N) lB) (mt (ML N) lB.drew) lB lB.drew from fun _ h _=>⟨h,rfl⟩);have zb0:W7.heap.size<=lB.heap.size:=aR hk9.size zg.size;have zen:N<=lB.drew.heap.size:=aR HNW zb0;have zeo:∀c,lB.drew.heap.size<=c->L c:=fun c h=>hLn c (aR zb0 h);have Lc:∀b,v5.ownBlock=some b->b<lB.heap.size:=fun b hb=>bP (aE b hb).2 zb0;refine J5 Lc [_,_,_,_,_,_,_,_,_,_,_] 9 Gp (by kernel_rfl) (by kernel_rfl) (fun|0,_=>iK _ 5 (ere 10 t5)|1,_=>iK _ 0 (qj Jl)|2,_=>iK _ 6 (qj t6)|3,_=>lF rfl 43 44 (.pointer (some ⟨gb,go+i*8,none⟩)) (aZ 1) (aZ 2)|4,_=>jJ rfl 45 (.pointer (some ⟨gb,go+i*8,none⟩)) (aZ 3)|5,_=>QC f 46 gb (go+i*8) p hpL c0 c1 c2 c3 hgN hLO (aZ 4)|6,_=>zp _ _ 7 F7d.box h7O (F7d.at hLO) (qj F7d.slot)|7,_=>sj _ _ 47 48 (aZ 5) (aZ 6)|8,_=>Wq f g 49 zeo (aZ 7)|9,_=>Zo _ _ N v5 R5d zen BK 42 50 rfl rfl rfl (fun h=>by simp[kAo,h]) (aZ 0) (aZ 8)|10,_=>fA _ 51 (aZ 9)|k+11,hk=>nk hk) fun A12 γ W12 h=>?_;have zb1:=h.sz.trans Gp;have zep:=h.df.trans OO;have Zw:=h.inv.1;have zb2:Below w.heap.size w W12:=en JR.drew Zw (fun c hc=>aR hNw (aE c hc).1);replace B3:=B3d.next (L':=ML N) (h.od 3) Zw (hnN b3 aS) hnN (fun _ h _=>h);replace t0:=h.ol 0 t0;replace t6:=h.ol 6 t6;replace P0:=P0d.move (mt.next (L':=ML N) Zw hnN (fun _ h _=>h));obtain⟨vz,t5,fz⟩:=h.get 10 _ 5 rfl rfl;obtain⟨_,_,R5,_,_⟩:=fz;have zeq:N<=W12.heap.size:=aR zen Zw.size;have hrj:eU (l.take (i+1))=eU (l.take i)++[(f,g)]:=by rw[Sn hlt,<-η,WH]
  have zgu:∀x∈l.take (i+1),bw x.2=true:=fun x hx=>by
   rw[lq hlt,<-η]at hx;rcases List.mem_append.1 hx with hx|hx
   ·exact Mf x hx
   ·rw[List.mem_singleton.1 hx];exact hr
  rw[<-hrj]at R5;clear h Gp OO JR hpL hgN hLO hLn zeo BK hp hq Z3 c0 c1 c2 c3 c4 c5 c6 c7 aE Lc hrj hL' Jl F7 F7d B3d R5d P0d h7O
  try simp only[Exit.inBlock,Exit.then]
  refine hKq _ _ ?_;have hwr:IntKind.i64.wrap ((i:Int)+1)=((i+1:Nat):Int):=by rw[jD _ (by omega)];simp
  have hT:=mY.next zb2;refine dv [_,_,_] 3 3 zb1 (by kernel_rfl) (fun|0,_=>iK _ 6 (ere 2 t6)|1,_=>jJ rfl 29 (.int .i64 ((i+1:Nat):Int)) (aZ 0)|2,_=>xm _ 30 (aZ 1)|k+3,hk=>nk hk) fun A8 γ W8 h=>?_;obtain⟨SO,hd8,HB8⟩:=h.n3 zb1 zep zb2;replace B3:=B3.nz h;replace t0:=h.ol 0 t0;replace t5:=h.ol 5 t5;replace P0:=P0.move (mt.next (L':=(ML N)) h.inv.1 (fun _ _ h=>h) (fun _ h _=>h));replace R5:=R5.kept (fun c hc=>h.inv.1.same c hc (fun h=>h));have WV:=h.inv.1;clear hT zb1 zep zb2;have t6:=h.gv 2 6;simp only[Exit.then];refine⟨⟨i+1,_,hlt,aR zeq WV.size,zgu,⟨SO,hd8,HB8,t6,t5,t0,B3,P0,R5⟩⟩,?_⟩;rw[bL t6];simp only[intOf,Int.toNat_natCast];omega
 obtain rfl:i=l.length:=by omega
 have Xa:decide ((l.length:Int)<(l.length:Int))=false:=by simp
 have hT:=mY.next HB;refine dD (fun K7a zbZ=>?_);refine dD (fun K7b Zv=>?_);refine dv [_,_,_,_] 4 4 hs (by kernel_rfl) (fun|0,_=>iK _ 6 (qj t6)|1,_=>iK _ 0 (qj t0)|2,_=>jJ rfl 26 (.int .i64 l.length) (aZ 1)|3,_=>lF rfl 25 27 (.bool false) (aZ 0) (aZ 2)|k+4,hk=>nk hk) fun A7 γ W7 h=>?_;obtain⟨WT,hd7,_P⟩:=h.n3 hs hd HB;replace B3:=B3.nz h;replace t0:=h.ol 0 t0;replace t5:=h.ol 5 t5;replace t6:=h.ol 6 t6;replace P0:=P0.move (mt.next (L':=(ML N)) h.inv.1 (fun _ _ h=>h) (fun _ h _=>h));replace R5:=R5.kept (fun c hc=>h.inv.1.same c hc (fun h=>h));have hk7:=h.inv.1;clear hT hs hd HB;have tc:=h.gv 3 28;clear h;refine Zv _ _ ?_;refine wpIn_cond_false (bL tc) (wpIn_exit ?_);simp only[Exit.then,Exit.inBlock,↓reduceIte];refine zgt _ _ ?_;rw[gB (aK _)]at R5 Mf;obtain⟨ra,rc,rfl,PR⟩:=R5.pairs;exact zgo WB w mY l bd hP Mf la lc ra rc b3 _ _ ⟨WT,hd7,_P,t0,t5,⟨_,B3.weakA⟩,P0.move (fun _ h _=>⟨⟨trivial,h.2⟩,rfl⟩),PR.move (fun _ h _=>⟨⟨trivial,h⟩,rfl⟩)⟩
theorem Sr(WB:World)(l:List (Fm×Fm))(bd:Bd)(pM:jp (cP l))(hb1:bd.fs.length<=1000000)(bU:bd.ts.length<=1000000)(zI:bd.fs.length<=10->bd.ts.length<=10->jp (mm bd.fs++nG bd.ts))(ok ok':Nat->Prop)(w:World)(mY:gG WB w)(la:Option Addr)(lc:Nat)(q:BQ)(hl:dZ ok w (.slice la l.length lc) l)(hq:fH ok' w q bd):
  Calls prog 10 #[.slice la l.length lc,q.val] w fun e w'=>e=.returned (.bool true)/\Below w.heap.size w w':=by
 have⟨W2,bp⟩:=az (w.alloc (.cells #[.slice q.a q.l q.c,.slice q.b q.m q.e] 26));have HB:=dj bp;have hx:=cA bp;have hlw:dZ (fun b=>b<w.heap.size) w (.slice la l.length lc) l:=hl.move (fun _ _ h=>⟨h,rfl⟩);have hqw:fH (fun b=>b<w.heap.size) w q bd:=hq.move (fun _ _ h=>⟨h,rfl⟩);have P0:dZ (mt X0 W2) W2 (.slice la l.length lc) l:=(hlw.later HB).move (fun _ h hlt=>⟨⟨trivial,hlt⟩,rfl⟩);have hvb:fH (mt X0 W2) W2 q bd:=(hqw.later HB).move (fun _ h hlt=>⟨⟨trivial,hlt⟩,rfl⟩);clear hl hq hlw hqw;simp only[BQ.val];refine oM func10 ?_;simp only[ntmps10,Nat.reduceAdd,Nat.reduceSub,ng];refine dD (fun K hK=>?_);refine wpIn_region_lit ?_
 iterate 7 gi_step
 refine hK _ _ ?_;rw[<-bp];refine(fun(A:Act)(hs:A.tmps.size=79)(hd:A.defers=[])(t0:A.tmps[0]?=some (.slice la l.length lc))(t3:A.tmps[3]?=some (OL w.heap.size))=>?_:∀A:Act,A.tmps.size=79->A.defers=[]->A.tmps[0]?=some (.slice la l.length lc)->A.tmps[3]?=some (OL w.heap.size)->Code.wpIn Fence.wide 3 _ _ _ A W2) _ rfl rfl rfl rfl;clear hK K;have⟨b3,zer⟩:=az w.heap.size;rw[<-zer]at hx t3;have B3:LB X0 A W2 3 b3 q bd:=⟨t3,hx,hvb⟩;clear t3 hx hvb bp zer;have mv:∀c,cf c->WB.heap.size<=c:=fun _ h=>h.elim;have jK:∀c,X0 c->¬cf c:=fun _ _ h=>h;have hL:∀{u:World}(c),u.heap.size<=c->X0 c:=fun _ _=>trivial;have hT:=mY.next HB;refine dD (fun K1a zes=>?_);refine dD (fun K1b zet=>?_);refine dv [_,_] 2 2 hs (by kernel_rfl) (fun|0,_=>Wc hT mv|1,_=>Im _ 15 (aZ 0)|k+2,hk=>nk hk) fun A1 γ W1 h=>?_;obtain⟨iZ,Xa,eQ⟩:=h.n3 hs hd HB;replace B3:=B3.nz h;replace t0:=h.ol 0 t0;replace P0:=P0.move (mt.next (L':=X0) h.inv.1 jK (fun _ h _=>h));clear hT hs hd HB;have tc:=h.gv 1 16;clear h;refine zet _ _ ?_;refine wpIn_cond_false (bL tc) (wpIn_skip ?_);refine zes _ _ ?_;clear zes zet K1a K1b tc
 by_cases jq:JX l=true
 case neg=>
  have jq:JX l=false:=by simpa using jq
  have hT:=mY.next eQ;refine dD (fun K3a Zx=>?_);refine dD (fun K3b QF=>?_);refine dv [_,_,_,_,_,_,_,_] 8 8 iZ (by kernel_rfl) (fun|0,_=>uA l 0 la lc P0 jK (qj t0)|1,_=>OW l pM 17 (aZ 0) (hp:=isE jq)|2,_=>Im _ 18 (aZ 1)|3,_=>iK _ 19 (aZ 2)|4,_=>OS false 3 (aZ 3)|5,_=>OS false 3 (aZ 3)|6,_=>OS false 3 (aZ 3)|7,_=>zbP _ 20 (aZ 3)|k+8,hk=>nk hk) fun A3 γ W3 h=>?_;obtain⟨wA,Sz,bV⟩:=h.n3 iZ Xa eQ;replace B3:=B3.nz h;replace t0:=h.ol 0 t0;replace P0:=P0.move (mt.next (L':=X0) h.inv.1 jK (fun _ h _=>h));clear hT iZ Xa eQ;have tc:=h.gv 7 24;clear h;refine QF _ _ ?_;refine wpIn_cond_true (bL tc) ?_;have hT:=mY.next bV;refine dD (fun K4a zb3=>?_);refine dv [_] 1 1 wA (by kernel_rfl) (fun|0,_=>Ih (.bool true)|k+1,hk=>nk hk) fun A4 γ W4 h=>?_;obtain⟨Bm,Xm,e9⟩:=h.n3 wA Sz bV;replace B3:=B3.nz h;replace t0:=h.ol 0 t0;replace P0:=P0.move (mt.next (L':=X0) h.inv.1 jK (fun _ h _=>h));clear hT wA Sz bV;have tr:=h.gv 0 4;refine zb3 _ _ ?_;refine wpIn_ret ?_
  try simp only[Exit.then]
  exact qfE
 by_cases Ae:pt bd=true
 case neg=>
  have Ae:pt bd=false:=by simpa using Ae
  have hT:=mY.next eQ;refine dD (fun K3a Zx=>?_);refine dD (fun K3b QF=>?_);refine dv [_,_,_,_,_,_,_,_] 8 8 iZ (by kernel_rfl) (fun|0,_=>uA l 0 la lc P0 jK (qj t0)|1,_=>OW l pM 17 (aZ 0) (hp:=isE jq)|2,_=>Im _ 18 (aZ 1)|3,_=>iK _ 19 (aZ 2)|4,_=>B3.ld (hw:=wd 3)|5,_=>Il bd hb1 bU zI 21 (aZ 4) (hw:=wd 3) (hp:=isE Ae)|6,_=>Im _ 22 (aZ 5) (hw:=wd 3)|7,_=>We _ _ 20 23 (aZ 3) (aZ 6)|k+8,hk=>nk hk) fun A3 γ W3 h=>?_;obtain⟨wA,Sz,bV⟩:=h.n3 iZ Xa eQ;replace B3:=B3.nz h;replace t0:=h.ol 0 t0;replace P0:=P0.move (mt.next (L':=X0) h.inv.1 jK (fun _ h _=>h));clear hT iZ Xa eQ;have tc:=h.gv 7 24;clear h;refine QF _ _ ?_;refine wpIn_cond_true (bL tc) ?_;have hT:=mY.next bV;refine dD (fun K4a zb3=>?_);refine dv [_] 1 1 wA (by kernel_rfl) (fun|0,_=>Ih (.bool true)|k+1,hk=>nk hk) fun A4 γ W4 h=>?_;obtain⟨Bm,Xm,e9⟩:=h.n3 wA Sz bV;replace B3:=B3.nz h;replace t0:=h.ol 0 t0;replace P0:=P0.move (mt.next (L':=X0) h.inv.1 jK (fun _ h _=>h));clear hT wA Sz bV;have tr:=h.gv 0 4;refine zb3 _ _ ?_;refine wpIn_ret ?_
  try simp only[Exit.then]
  exact qfE
 have hT:=mY.next eQ;refine dD (fun K3a Zx=>?_);refine dD (fun K3b QF=>?_);refine dv [_,_,_,_,_,_,_,_] 8 8 iZ (by kernel_rfl) (fun|0,_=>uA l 0 la lc P0 jK (qj t0)|1,_=>OW l pM 17 (aZ 0) (hp:=isE jq)|2,_=>Im _ 18 (aZ 1)|3,_=>iK _ 19 (aZ 2)|4,_=>B3.ld (hw:=wd 3)|5,_=>Il bd hb1 bU zI 21 (aZ 4) (hw:=wd 3) (hp:=isE Ae)|6,_=>Im _ 22 (aZ 5) (hw:=wd 3)|7,_=>We _ _ 20 23 (aZ 3) (aZ 6)|k+8,hk=>nk hk) fun A3 γ W3 h=>?_;obtain⟨wA,Sz,bV⟩:=h.n3 iZ Xa eQ;replace B3:=B3.nz h;replace t0:=h.ol 0 t0;replace P0:=P0.move (mt.next (L':=X0) h.inv.1 jK (fun _ h _=>h));clear hT iZ Xa eQ;have tc:=h.gv 7 24;clear h;refine QF _ _ ?_;refine wpIn_cond_false (bL tc) (wpIn_skip ?_);refine Zx _ _ ?_;clear Zx QF K3a K3b tc;obtain⟨hl8,hnd⟩:=Zt jq;have wT:bd.fs.length<=10/\bd.ts.length<=10:=by
  simp only[pt,ak,bM]at Ae;exact⟨Ae.1,Ae.2.1⟩
 have hbd:j9 bd:=(O5 Ae (zI wT.1 wT.2)).1;have hps:∀x∈l,cJ x.1/\cJ x.2:=fun x hx=>⟨pM.mem (Fu hx).1,pM.mem (Fu hx).2⟩
 clear jq Ae hb1 bU zI;have hT:=mY.next bV;refine dD (fun K5a zgv=>?_);refine dv [_] 1 1 wA (by kernel_rfl) (fun|0,_=>Ih (.slice none 0 0)|k+1,hk=>nk hk) fun A5 γ W5 h=>?_;obtain⟨NS,hd5,DO⟩:=h.n3 wA Sz bV;replace B3:=B3.nz h;replace t0:=h.ol 0 t0;replace P0:=P0.move (mt.next (L':=X0) h.inv.1 jK (fun _ h _=>h));clear hT wA Sz bV;have t5:=h.gv 0 5;clear h;refine zgv _ _ ?_;exact al5 WB w mY l bd ⟨hl8,hnd,hps,hbd,wT.1,wT.2⟩ la lc b3 _ _ ⟨NS,hd5,DO,t0,t5,⟨_,B3⟩,P0⟩
