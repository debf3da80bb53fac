/-
What a row's list gives.
-/
import Derived.Test.YtokemihbkeddoaaGreatDoorRows
import Derived.Test.YtokemihbkeddoaaGreatDoorV02
namespace Go.Proofs.YtokemihbkeddoaaGreatDoor
set_option maxRecDepth 100000
set_option maxHeartbeats 64000000
open Go Go.RowKit Go.Lib Go.ChangeShapes
def lst:List (String×DataW Unit):=[("math/bits.deBruijn32tab",Rows.laid_math_bits_deBruijn32tab),("math/bits.deBruijn64tab",Rows.laid_math_bits_deBruijn64tab),("internal/strconv.uint64pow10",Rows.laid_internal_strconv_uint64pow10),("lyceum/syntax.rows",Rows.laid_lyceum_syntax_rows)]
def Y7 (r:Bool×Bool×Nat×Nat×Nat):DataW Unit:=.agg [.lit (.bool r.1),.lit (.bool r.2.1),.lit (.int .u8 (r.2.2.1:Nat)),.lit (.int .i64 (r.2.2.2.1:Nat)),.lit (.int .i64 (r.2.2.2.2:Nat))]
theorem Y8:(Rows.laid_internal_strconv_uint64pow10:DataW Unit)=tabData .u64 pow10Tab:=by kernel_rfl
theorem Ub:(Rows.laid_lyceum_syntax_rows:DataW Unit)=.agg ((List.range 17).map fun (o:Nat)=>Y7 (rowOp o)):=by kernel_rfl
theorem VO:Tryz.prog.globalNamed "lyceum/syntax.rows"=some 0:=by kernel_rfl
theorem Y9:(Tryz.prog.globals[0]?).map (·.type)=some 174:=by kernel_rfl
theorem zb2:(Tryz.prog.globals[2]?).map (·.type)=some 304:=by kernel_rfl
theorem Y':Tryz.prog.cellsOf 173=5:=by kernel_rfl
theorem Uc:Tryz.prog.cellsOf 304=20:=by kernel_rfl
theorem RU:Tryz.prog.cellsOf 275=1:=by kernel_rfl
section
variable {W:World} {base cE:Nat} {sp:Nat->Bool} {held:Bool} {cs:List Value} {p:List MemPlace} {enc:TypeId×Value->Unit}
theorem zb3 {α:Type} {l:List α} (h:l.length=5):∃a b c d e,l=[a,b,c,d,e]:=by
 match l,h with
 | [a,b,c,d,e],_=>exact ⟨a,b,c,d,e,rfl⟩
theorem Oc {r:Bool×Bool×Nat×Nat×Nat} (h:DataW.trod enc Tryz.prog W base sp held cE 173 cs=some (Y7 r,p)):cs=[.bool r.1,.bool r.2.1,.int .u8 (r.2.2.1:Nat),.int .i64 (r.2.2.2.1:Nat),.int .i64 (r.2.2.2.2:Nat)]:=by
 obtain ⟨xs,n,_,hx,cf,yg,hf⟩:=DataW.trod_struct Tryz.underlying173 h;obtain ⟨c0,c1,c2,c3,c4,rfl⟩:=zb3 (cf.trans (by kernel_rfl));obtain ⟨x0,x1,x2,x3,x4,rfl⟩:=zb3 (yg.trans (by kernel_rfl));have h0:DataW.trod enc Tryz.prog W base sp held n 4 [c0]=some x0:=hf 0 _ rfl;have h1:DataW.trod enc Tryz.prog W base sp held n 4 [c1]=some x1:=hf 1 _ rfl;have h2:DataW.trod enc Tryz.prog W base sp held n 5 [c2]=some x2:=hf 2 _ rfl;have h3:DataW.trod enc Tryz.prog W base sp held n 3 [c3]=some x3:=hf 3 _ rfl;have h4:DataW.trod enc Tryz.prog W base sp held n 3 [c4]=some x4:=hf 4 _ rfl;obtain ⟨b0,e0,rfl⟩:=DataW.trod_bool Tryz.underlying4 h0;obtain ⟨b1,e1,rfl⟩:=DataW.trod_bool Tryz.underlying4 h1;obtain ⟨z2,e2,rfl,_⟩:=DataW.trod_int Tryz.underlying5 h2;obtain ⟨z3,e3,rfl,_⟩:=DataW.trod_int Tryz.underlying3 h3;obtain ⟨z4,e4,rfl,_⟩:=DataW.trod_int Tryz.underlying3 h4;have:=congrArg Prod.fst hx;simp[Y7]at this e0 e1 e2 e3 e4;obtain ⟨g0,g1,g2,g3,g4⟩:=this;subst e0 e1 e2 e3 e4;rw[g0,g1,g2,g3,g4]
theorem Fx {f:Nat->DataW Unit} (h:DataW.trod enc Tryz.prog W base sp held cE 174 cs=some (.agg ((List.range 17).map f),p)):∀ o,o<17->∃n p',DataW.trod enc Tryz.prog W base sp held n 173 ((cs.drop (o * 5)).take 5)=some (f o,p'):=by
 intro o ho
 cases cE with
 | zero=>simp[DataW.trod]at h
 | succ cE=>
  simp only[DataW.trod,Tryz.underlying174,Y']at h;split at h
  ·obtain ⟨xs,hm,hx⟩:=Option.map_eq_some_iff.1 h;obtain ⟨b,hb,hf⟩:=mapM_at hm o o (by simp[ho]);have h2:xs.map (·.1)=(List.range 17).map f:=by
    have:=congrArg Prod.fst hx;simpa using this
   have h3:=congrArg (·[o]?) h2;simp[hb,ho]at h3;exact ⟨cE,b.2,by rw[hf,<-h3]⟩
  ·cases h
end
theorem Cx {W:World} (hL:laidMet Tryz.prog lst W):Tabs0 W:=by
 refine ⟨?_,fun o ho=>?_⟩
 ·obtain ⟨g',t',cs,cE,p,hg,ht,Y_,hd⟩:=laidMet.reads hL (n:="internal/strconv.uint64pow10") (d:=Rows.laid_internal_strconv_uint64pow10) (.tail _ (.tail _ (.head _)));obtain rfl:=Option.some.inj (V4.symm.trans hg);obtain rfl:=Option.some.inj (zb2.symm.trans ht);rw[Y8]at hd;unfold TabIs;rw[Y_,<-cells_of_tab Tryz.underlying304 Tryz.underlying275 RU Uc hd]
 ·obtain ⟨g',t',cs,cE,p,hg,ht,Y_,hd⟩:=laidMet.reads hL (n:="lyceum/syntax.rows") (d:=Rows.laid_lyceum_syntax_rows) (.tail _ (.tail _ (.tail _ (.head _))));obtain rfl:=Option.some.inj (VO.symm.trans hg);obtain rfl:=Option.some.inj (Y9.symm.trans ht);rw[Ub]at hd;obtain ⟨n,p',h⟩:=Fx hd o ho;have hc:=Oc h;have Mu:∀ j,j<5->W.cell? ⟨0,o * 5+j,none⟩=((cs.toList.drop (o * 5)).take 5)[j]?:=fun j hj=>by
   rw[World.var?_cell VO Y_ (o * 5+j),List.getElem?_take_of_lt hj,List.getElem?_drop];simp
  rw[hc]at Mu;exact ⟨Mu 0 (by omega),Mu 1 (by omega),Mu 2 (by omega),Mu 3 (by omega),Mu 4 (by omega)⟩
noncomputable def laidWorld (os:Os):World:=
 let w0:=World.holding Tryz.prog os ⟨#[],#[],[]⟩
 let put (h:Array Obj) (g:Nat) (cs:Array Value):Array Obj:=h.modify g fun
  | .cells _ t Za=>.cells cs t Za
  | o=>o
 let ints (d:DataW Unit) (k:IntKind):Array Value:=match d with
  | .agg l=>(l.map fun | .lit (.int _ z)=>Value.int k z | _=>undef).toArray
  | _=>#[]
 let h1:=put w0.heap 3 (ints Rows.laid_math_bits_deBruijn32tab .u8)
 let h2:=put h1 4 (ints Rows.laid_math_bits_deBruijn64tab .u8)
 let h3:=put h2 2 (ints Rows.laid_internal_strconv_uint64pow10 .u64)
 let h4:=put h3 0 ((List.range 17).flatMap fun (o:Nat)=>[.bool (rowOp o).1,.bool (rowOp o).2.1,.int .u8 ((rowOp o).2.2.1:Nat),.int .i64 ((rowOp o).2.2.2.1:Nat),.int .i64 ((rowOp o).2.2.2.2:Nat)]).toArray
 { w0 with heap:=h4 }
theorem RV (os:Os) (args:Array Value):laidMet Tryz.prog lst ((laidWorld os).forCall (fun _ _=>0) ⟨#[],args,[]⟩).memory:=
 laidMet_of_run' 8 (by kernel_rfl) (by kernel_rfl)
