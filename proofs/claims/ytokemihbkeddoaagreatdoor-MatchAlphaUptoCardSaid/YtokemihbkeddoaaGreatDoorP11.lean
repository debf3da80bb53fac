/-L-/
import Derived.Test.YtokemihbkeddoaaGreatDoorRows
import Derived.Test.YtokemihbkeddoaaGreatDoorP01
open Go.Proofs.Tryz
namespace Go.Proofs.YtokemihbkeddoaaGreatDoor
set_option maxRecDepth 100000
set_option maxHeartbeats 0
open Go Go.RowKit Go.Lib Go.ChangeShapes
def lst:List (String×DataW Unit):=[("math/bits.deBruijn32tab",Rows.laid_math_bits_deBruijn32tab),("math/bits.deBruijn64tab",Rows.laid_math_bits_deBruijn64tab),("internal/strconv.uint64pow10",Rows.laid_internal_strconv_uint64pow10),("lyceum/syntax.rows",Rows.laid_lyceum_syntax_rows)]
def zb4(r:Bool×Bool×Nat×Nat×Nat):DataW Unit:=.agg [.lit (.bool r.1),.lit (.bool r.2.1),.lit (.int .u8 (r.2.2.1:Nat)),.lit (.int .i64 (r.2.2.2.1:Nat)),.lit (.int .i64 (r.2.2.2.2:Nat))]
theorem zb5:(Rows.laid_internal_strconv_uint64pow10:DataW Unit)=tabData .u64 pow10Tab:=by kernel_rfl
theorem Zy:(Rows.laid_lyceum_syntax_rows:DataW Unit)=.agg ((List.range 17).map fun(o:Nat)=>zb4 (eE o)):=by kernel_rfl
theorem ω:prog.globalNamed "lyceum/syntax.rows"=some 0:=by kernel_rfl
theorem zb6:(prog.globals[0]?).map (·.type)=some 174:=by kernel_rfl
theorem zeu:(prog.globals[2]?).map (·.type)=some 304:=by kernel_rfl
theorem zb7:prog.cellsOf 173=5:=by kernel_rfl
theorem Zz:prog.cellsOf 304=20:=by kernel_rfl
theorem Wy:prog.cellsOf 275=1:=by kernel_rfl
section
variable{W:World}{base dl:Nat}{sp:Nat->Bool}{held:Bool}{cs:List Value}{p:List MemPlace}{enc:TypeId×Value->Unit}
theorem zev{α:Type}{l:List α}(h:l.length=5):∃a b c d e,l=[a,b,c,d,e]:=by
 match l,h with
 |[a,b,c,d,e],_=>exact⟨a,b,c,d,e,rfl⟩
theorem St{r:Bool×Bool×Nat×Nat×Nat}(h:DataW.trod enc prog W base sp held dl 173 cs=some (zb4 r,p)):cs=[.bool r.1,.bool r.2.1,.int .u8 (r.2.2.1:Nat),.int .i64 (r.2.2.2.1:Nat),.int .i64 (r.2.2.2.2:Nat)]:=by
 obtain⟨xs,n,_,hx,hlen,z8,hf⟩:=DataW.trod_struct underlying173 h;obtain⟨c0,c1,c2,c3,c4,rfl⟩:=zev (hlen.trans (by kernel_rfl));obtain⟨x0,x1,x2,x3,x4,rfl⟩:=zev (z8.trans (by kernel_rfl));have h0:DataW.trod enc prog W base sp held n 4 [c0]=some x0:=hf 0 _ rfl;have h1:DataW.trod enc prog W base sp held n 4 [c1]=some x1:=hf 1 _ rfl;have h2:DataW.trod enc prog W base sp held n 5 [c2]=some x2:=hf 2 _ rfl;have h3:DataW.trod enc prog W base sp held n 3 [c3]=some x3:=hf 3 _ rfl;have h4:DataW.trod enc prog W base sp held n 3 [c4]=some x4:=hf 4 _ rfl;obtain⟨b0,e0,rfl⟩:=DataW.trod_bool underlying4 h0;obtain⟨b1,e1,rfl⟩:=DataW.trod_bool underlying4 h1;obtain⟨z2,e2,rfl,_⟩:=DataW.trod_int underlying5 h2;obtain⟨z3,e3,rfl,_⟩:=DataW.trod_int underlying3 h3;obtain⟨z4,e4,rfl,_⟩:=DataW.trod_int underlying3 h4;have:=congrArg Prod.fst hx;simp[zb4]at this e0 e1 e2 e3 e4;obtain⟨g0,g1,g2,g3,g4⟩:=this;subst e0 e1 e2 e3 e4;rw[g0,g1,g2,g3,g4]
theorem J6{f:Nat->DataW Unit}(h:DataW.trod enc prog W base sp held dl 174 cs=some (.agg ((List.range 17).map f),p)):∀o,o<17->∃n p',DataW.trod enc prog W base sp held n 173 ((cs.drop (o*5)).take 5)=some (f o,p'):=by
 intro o ho
 cases dl with
 |zero=>simp[DataW.trod]at h
 |succ dl=>
  simp only[DataW.trod,underlying174,zb7]at h;split at h
  ·obtain⟨xs,hm,hx⟩:=Option.map_eq_some_iff.1 h;obtain⟨b,hb,hf⟩:=mapM_at hm o o (by simp[ho]);have h2:xs.map (·.1)=(List.range 17).map f:=by
    have:=congrArg Prod.fst hx;simpa using this
   have h3:=congrArg (·[o]?) h2;simp[hb,ho]at h3;exact⟨dl,b.2,by rw[hf,<-h3]⟩
  ·cases h
end
theorem Gt{W:World}(hL:laidMet prog lst W):KB W:=by
 refine⟨?_,fun o ho=>?_⟩
 ·obtain⟨g',t',cs,dl,p,hg,ht,zb8,hd⟩:=laidMet.reads hL (n:="internal/strconv.uint64pow10") (d:=Rows.laid_internal_strconv_uint64pow10) (.tail _ (.tail _ (.head _)));obtain rfl:=Option.some.inj (Μ.symm.trans hg);obtain rfl:=Option.some.inj (zeu.symm.trans ht);rw[zb5]at hd;unfold TabIs;rw[zb8,<-cells_of_tab underlying304 underlying275 Wy Zz hd]
 ·obtain⟨g',t',cs,dl,p,hg,ht,zb8,hd⟩:=laidMet.reads hL (n:="lyceum/syntax.rows") (d:=Rows.laid_lyceum_syntax_rows) (.tail _ (.tail _ (.tail _ (.head _))));obtain rfl:=Option.some.inj (ω.symm.trans hg);obtain rfl:=Option.some.inj (zb6.symm.trans ht);rw[Zy]at hd;obtain⟨n,p',h⟩:=J6 hd o ho;have hc:=St h;have FC:∀j,j<5->W.cell? ⟨0,o*5+j,none⟩=((cs.toList.drop (o*5)).take 5)[j]?:=fun j hj=>by
   rw[World.var?_cell ω zb8 (o*5+j),List.getElem?_take_of_lt hj,List.getElem?_drop];simp
  rw[hc]at FC;exact⟨FC 0 (by omega),FC 1 (by omega),FC 2 (by omega),FC 3 (by omega),FC 4 (by omega)⟩
noncomputable def laidWorld (os:Os):World:=
 let w0:=World.holding prog os ⟨#[],#[],[]⟩
 let put (h:Array Obj) (g:Nat) (cs:Array Value):Array Obj:=h.modify g fun
  |.cells _ t zb9=>.cells cs t zb9
  |o=>o
 let ints (d:DataW Unit) (k:IntKind):Array Value:=match d with
  |.agg l=>(l.map fun|.lit (.int _ z)=>Value.int k z|_=>undef).toArray
  |_=>#[]
 let h1:=put w0.heap 3 (ints Rows.laid_math_bits_deBruijn32tab .u8)
 let h2:=put h1 4 (ints Rows.laid_math_bits_deBruijn64tab .u8)
 let h3:=put h2 2 (ints Rows.laid_internal_strconv_uint64pow10 .u64)
 let h4:=put h3 0 ((List.range 17).flatMap fun(o:Nat)=>[.bool (eE o).1,.bool (eE o).2.1,.int .u8 ((eE o).2.2.1:Nat),.int .i64 ((eE o).2.2.2.1:Nat),.int .i64 ((eE o).2.2.2.2:Nat)]).toArray
 {w0 with heap:=h4 }
theorem Wz(os:Os)(args:Array Value):laidMet prog lst ((laidWorld os).forCall (fun _ _=>0) ⟨#[],args,[]⟩).memory:=
 laidMet_of_run' 8 (by kernel_rfl) (by kernel_rfl)
