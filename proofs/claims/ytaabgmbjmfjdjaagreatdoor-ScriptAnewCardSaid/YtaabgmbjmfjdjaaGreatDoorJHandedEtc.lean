import Derived.Test.YtaabgmbjmfjdjaaGreatDoorJErrors
import Derived.Test.YtaabgmbjmfjdjaaGreatDoorTie
import Derived.ProofKit
import Derived.LaidMore
import Derived.LaidHandle
import Derived.OpenShut
import Derived.RowKitTokens
import Derived.LaidLaws
import Derived.Stop.Joined
import Derived.Stop.LaidErr
import Derived.Test.YtaabgmbjmfjdjaaGreatDoorJRowedEtc
import Derived.Lib.LaidTab
import Derived.Test.YtaabgmbjmfjdjaaGreatDoorProg
import Derived.SizedLaws
import Derived.HandedShaped
import Derived.Shelf.Vars
import Derived.Test.YtaabgmbjmfjdjaaGreatDoorJPackReads
import Derived.Deep.Strs
import Derived.Deep.SlicePairs
import Derived.WideShapes
import Derived.DataReads
import Derived.Test.YtaabgmbjmfjdjaaGreatDoorJNetPlainEtc
namespace Go.Proofs.YtaabgmbjmfjdjaaGreatDoor
open Go Go.RowKit Go.ChangeShapes Go.WideShapes Go.ChangeAt Go.WideMaps Go.WideElems Go.Deep
set_option maxRecDepth 100000
theorem Tryz.own:ownKnob Tryz.prog.godebug=none:=by kernel_rfl
theorem Tryz.laidOut:laidOutB Tryz.prog=true:=by kernel_rfl
theorem Tryz.cellsES:Tryz.prog.cellsOf 300=1:=by kernel_rfl
theorem Tryz.cellsS:Tryz.prog.cellsOf 9=1:=by kernel_rfl
theorem Tryz.starES: "*"++ "errors.errorString"= "*errors.errorString":=by decide
theorem Tryz.rowES (u:TypeId) (h:Tryz.prog.typeName? 3 u=some "*errors.errorString"):u=298:=
 typeName_ptr_named (nm:= "errors.errorString") (by rw [Tryz.starES];kernel_rfl) (by kernel_rfl) (by decide) u (by rw [Tryz.starES];exact h)
abbrev sentD (t:List UInt8):DataW Unit:= .iface "*errors.errorString" (.ptr (.agg [.lit (.string t)]))
def Sents (W:World):List String→List Addr→Prop
 | [],ads=>ads=[]
 |n::ns,ads=>∃a r,ads=a::r∧(∀g,Tryz.prog.globalNamed n=some g→W.cell? ⟨g,0,none⟩=some (.iface 298 (.pointer (some a))))∧(∃c t,W.heap[a.block]? =some (.cells c t (0,0)))∧a∉r∧Sents W ns r
def Txts (W:World):List (List UInt8)→List Addr→Prop
 | [],_=>True
 |t::ts,ads=>∃a r,ads=a::r∧(∃s:ByteArray,W.cell? a=some (.string s)∧s.data.toList=t)∧Txts W ts r
theorem Txts.at {W:World}:∀{ts ads},Txts W ts ads→∀k,k<ts.length→∃s:ByteArray,W.cell? (ads.getD k default)=some (.string s)∧s.data.toList=ts.getD k []
 | [],ads,h,k,hk=>absurd hk (Nat.not_lt_zero _)
 |t::ts,ads,⟨a,r,e,h1,h2⟩,0,hk=>by subst e;exact h1
 |t::ts,ads,⟨a,r,e,h1,h2⟩,k+1,hk=>by
  subst e;exact Txts.at h2 k (by simpa using hk)
theorem Sents.rows {W:World}:∀{ns ads},Sents W ns ads→∀a∈ads,∃c t,W.heap[a.block]? =some (.cells c t (0,0))
 | [],ads,h,a,ha=>by rw [show ads=[] from h] at ha;cases ha
 |n::ns,ads,⟨b,r,e,h1,h2,h3,h4⟩,a,ha=>by
  subst e;rcases List.mem_cons.1 ha with rfl|ha
  ·exact h2
  ·exact Sents.rows h4 a ha
theorem sents_of {W:World} {rest:List (String×DataW Unit)}:∀(L:List (String×List UInt8)) {ps:List MemPlace},
  (L.all fun x=>(Tryz.prog.globalNamed x.1).bind (fun g=>(Tryz.prog.globals[g]?).map (·.type))==some 27)=true→
  DataW.LaidVars Tryz.prog W (L.map (fun x=>(x.1,sentD x.2))++rest) ps→ps.Nodup→
  (∀b off,MemPlace.cell b off∈ps→(∃c t,W.heap[b]? =some (.cells c t (0,0)))∧∀u v,W.cell? ⟨b,off,none⟩=some (.iface u v)→Value.okWide Tryz.prog W .any 0 u v)→
  ∃ads,Sents W (L.map (·.1)) ads∧(∀a∈ads,MemPlace.cell a.block a.off∈ps)∧Txts W (L.map (·.2)) ads
 | [],ps,_,_,_,_=>⟨[],rfl,⟨(fun a h=>by cases h),trivial⟩⟩
 |(n,text)::L,ps,hall,h,hnd,hrows=>by
  obtain ⟨g,t,cs,fuel,p,q,hg,ht,hv,hd,hq,e⟩:=h;subst e;simp only [List.all_cons,Bool.and_eq_true] at hall;have ht':t=27:=by
   have h1:=hall.1;simp only [hg,Option.bind_some,beq_iff_eq] at h1;exact Option.some.inj (ht.symm.trans h1)
  subst ht';obtain ⟨l0⟩:=cs;have hok:∀u v,l0=[.iface u v]→Value.okWide Tryz.prog W .any 0 u v:=fun u v e=>by
   subst e;exact (hrows g 0 (by simp [MemPlace.row])).2 u v (by simpa using World.var?_cell hg hv 0)
  obtain ⟨a,s,e1,hc,hs,hz,e2⟩:=errorString_of_trod Tryz.underlying27 Tryz.rowES Tryz.underlying298 Tryz.underlying300 rfl rfl Tryz.underlying9 Tryz.cellsES Tryz.cellsS hd hok;obtain rfl:l0=_:=e1;subst e2;have hndq:q.Nodup:=List.Nodup.sublist (List.sublist_append_right _ _) hnd;obtain ⟨ads,hS,hin,hT⟩:=sents_of L hall.2 hq hndq (fun b off hm=>hrows b off (List.mem_append_right _ hm));refine ⟨a::ads,⟨a,ads,rfl,?_,(hrows a.block a.off (by simp [MemPlace.row])).1,?_,hS⟩,?_,a,ads,rfl,⟨s,hc,hs⟩,hT⟩
  ·intro g' hg';obtain rfl:=Option.some.inj (hg.symm.trans hg');simpa using World.var?_cell hg hv 0
  ·intro ha;have h1:=hin a ha;rw [List.append_assoc] at hnd;have h2:=(List.nodup_append.1 (List.nodup_append.1 hnd).2.1).2.2;exact h2 (MemPlace.cell a.block a.off) (by simp [MemPlace.row]) _ h1 rfl
  ·intro b hb;rcases List.mem_cons.1 hb with rfl|hb
   ·simp [MemPlace.row]
   ·exact List.mem_append_right _ (hin b hb)
abbrev apiErrs:List (String×List UInt8):=[("chandlery/api.ErrText",[99,104,97,110,100,108,101,114,121,58,32,116,101,120,116]),("chandlery/api.ErrBound",[99,104,97,110,100,108,101,114,121,58,32,98,111,117,110,100]),("chandlery/api.ErrShape",[99,104,97,110,100,108,101,114,121,58,32,115,104,97,112,101]),("chandlery/api.ErrKind",[99,104,97,110,100,108,101,114,121,58,32,107,105,110,100]),("chandlery/api.ErrName",[99,104,97,110,100,108,101,114,121,58,32,110,97,109,101]),("chandlery/api.ErrNone",[99,104,97,110,100,108,101,114,121,58,32,110,111,110,101]),("chandlery/api.ErrExist",[99,104,97,110,100,108,101,114,121,58,32,101,120,105,115,116]),("chandlery/api.ErrFull",[99,104,97,110,100,108,101,114,121,58,32,102,117,108,108]),("chandlery/api.ErrOrder",[99,104,97,110,100,108,101,114,121,58,32,111,114,100,101,114]),("chandlery/api.ErrOut",[99,104,97,110,100,108,101,114,121,58,32,111,117,116]),("chandlery/api.ErrClash",[99,104,97,110,100,108,101,114,121,58,32,99,108,97,115,104]),("chandlery/api.ErrSum",[99,104,97,110,100,108,101,114,121,58,32,115,117,109]),("chandlery/api.ErrOff",[99,104,97,110,100,108,101,114,121,58,32,111,102,102])]
theorem apiErrs_typed:(apiErrs.all fun x=>(Tryz.prog.globalNamed x.1).bind (fun g=>(Tryz.prog.globals[g]?).map (·.type))==some 27)=true:=by kernel_rfl
theorem apiErrs_globalsB:((List.range 13).all fun k=>Tryz.prog.globalNamed ((apiErrs.map (·.1)).getD k "")==some (gE k))=true:=by kernel_rfl
theorem apiErrs_globals (k:Nat) (hk:k<13):Tryz.prog.globalNamed ((apiErrs.map (·.1)).getD k "")=some (gE k):=
 beq_iff_eq.1 (List.all_eq_true.1 apiErrs_globalsB k (List.mem_range.2 hk))
theorem apiErrs_txtB:((List.range 13).all fun k=>(apiErrs.map (·.2)).getD k []==errTx (k+1))=true:=by decide
theorem apiErrs_txt (k:Nat) (hk:k<13):(apiErrs.map (·.2)).getD k []=errTx (k+1):=
 beq_iff_eq.1 (List.all_eq_true.1 apiErrs_txtB k (List.mem_range.2 hk))
theorem Sents.length {W:World}:∀{ns ads},Sents W ns ads→ads.length=ns.length
 | [],ads,h=>by rw [show ads=[] from h];rfl
 |n::ns,ads,⟨b,r,e,h1,h2,h3,h4⟩=>by subst e;simp [Sents.length h4]
theorem Sents.at {W:World}:∀{ns ads},Sents W ns ads→∀k,k<ns.length→∀g,Tryz.prog.globalNamed (ns.getD k "")=some g→W.cell? ⟨g,0,none⟩=some (.iface 298 (.pointer (some (ads.getD k default))))
 | [],ads,h,k,hk=>absurd hk (Nat.not_lt_zero _)
 |n::ns,ads,⟨b,r,e,h1,h2,h3,h4⟩,0,hk=>by subst e;intro g hg;exact h1 g hg
 |n::ns,ads,⟨b,r,e,h1,h2,h3,h4⟩,k+1,hk=>by
  subst e;intro g hg;exact Sents.at h4 k (by simpa using hk) g (by simpa using hg)
theorem Sents.inj {W:World}:∀{ns ads},Sents W ns ads→∀i j,i<ads.length→j<ads.length→ads.getD i default=ads.getD j default→i=j
 | [],ads,h,i,j,hi,hj=>by rw [show ads=[] from h] at hi;exact absurd hi (Nat.not_lt_zero _)
 |n::ns,ads,⟨b,r,e,h1,h2,h3,h4⟩,i,j,hi,hj=>by
  subst e;intro hij;have mem:∀k,k<r.length→r.getD k default∈r:=fun k hk=>by simp [List.getD,hk]
  match i,j,hi,hj,hij with
  |0,0,_,_,_=>rfl
  |0,j+1,_,hj,hij=>
   have h5:r.getD j default=b:=by simpa using hij.symm
   have h6:=mem j (by simpa using hj);rw [h5] at h6;exact absurd h6 h3
  |i+1,0,hi,_,hij=>
   have h5:r.getD i default=b:=by simpa using hij
   have h6:=mem i (by simpa using hi);rw [h5] at h6;exact absurd h6 h3
  |i+1,j+1,hi,hj,hij=>exact congrArg (·+1) (Sents.inj h4 i j (by simpa using hi) (by simpa using hj) (by simpa using hij))
theorem env_of {W:World} {rest:List (String×DataW Unit)} (h:laidMet Tryz.prog (apiErrs.map (fun x=>(x.1,sentD x.2))++rest) W)
  (ht:W.cell? ⟨13,0,none⟩=some (.iface 147 (.agg #[.pointer (some ⟨27,27,none⟩)]))):∃E,Env E W:=by
 obtain ⟨ps,hv,hnd,hrows⟩:=h;obtain ⟨ads,hS,_,hT⟩:=sents_of apiErrs apiErrs_typed hv hnd hrows;have hlen:ads.length=13:=Sents.length hS;refine ⟨fun k=>ads.getD k default,⟨fun k hk=>?_,fun k hk=>?_,fun i j hi hj h=>Sents.inj hS i j (by omega) (by omega) h,fun k hk=>?_,ht⟩⟩
 ·exact Sents.at hS k hk _ (apiErrs_globals k hk)
 ·exact Sents.rows hS _ (by simp [List.getD,show k<ads.length by omega])
 ·obtain ⟨s,h1,h2⟩:=Txts.at hT k hk;exact ⟨s,h1,h2.trans (apiErrs_txt k hk)⟩
theorem Tryz.rt:(Tryz.prog.cutTypes.find? (·.1== "internal/reflectlite.rtype")).map (·.2)=some 147:=by kernel_rfl
theorem Tryz.oneRow:((List.range 344).filter fun t=>Tryz.prog.rowNamed t [101,114,114,111,114])=[27]:=by kernel_rfl
theorem Tryz.size:Tryz.prog.types.size=344:=by kernel_rfl
theorem Tryz.et:Tryz.prog.globalNamed "errors.errorType"=some 13:=by kernel_rfl
theorem handle_of {W:World} {hs:List (String×DataW Unit)} (h:handlesMet Tryz.prog hs W) (hm:("errors.errorType",Rows.laid_errors_errorType)∈hs):
  W.cell? ⟨13,0,none⟩=some (.iface 147 (.agg #[.pointer (some ⟨27,27,none⟩)])):=by
 obtain ⟨name,u,ty,e1,e2,e3,e4,e5⟩:=h _ hm;have en:name=[101,114,114,111,114]:=(Option.some.inj e1).symm;subst en;obtain rfl:=Option.some.inj (Tryz.rt.symm.trans e2);have hm:ty∈(List.range 344).filter fun t=>Tryz.prog.rowNamed t [101,114,114,111,114]:=List.mem_filter.2 ⟨List.mem_range.2 (by rw [←Tryz.size];exact e3),e4⟩
 rw [Tryz.oneRow] at hm;obtain rfl:=List.mem_singleton.1 hm;have hh:typeHandle Tryz.prog 27=.pointer (some ⟨27,27,none⟩):=by kernel_rfl
 rw [hh] at e5;simpa using World.var?_cell Tryz.et e5 0
theorem trodAll_below {H:Type} {enc:TypeId×Value→H} {W W':World} (hb:Below W.heap.size W W'):∀{ts:List TypeId} {vs:List Value} {ds:List (DataW H)} {ps:List MemPlace},
  (∀t∈ts,Tryz.prog.readableRec t=true∧t<Tryz.prog.types.size)→DataW.TrodAll enc Tryz.prog W 0 (fun _=>true) true ts vs ds ps→(∀x∈ps,x.block<W.heap.size)→
  DataW.TrodAll enc Tryz.prog W' 0 (fun b=>decide (b<W.heap.size)) true ts vs ds ps
 | [],[],[],ps,_,h,_=>h
 |t::ts,v::vs,d::ds,ps,ht,⟨p,q,h1,h2,e⟩,hlt=>by
  subst e;exact ⟨p,q,Below.trod Tryz.laidOut (ht t (by simp)).1 (ht t (by simp)).2 h1 hb (fun x hx=>hlt x (List.mem_append_left _ hx)),trodAll_below hb (fun u hu=>ht u (by simp [hu])) h2 (fun x hx=>hlt x (List.mem_append_right _ hx)),rfl⟩
 | [],[],_::_,_,_,h,_=>h.elim
 | [],_::_,[],_,_,h,_=>h.elim
 | [],_::_,_::_,_,_,h,_=>h.elim
 |_::_,[],[],_,_,h,_=>h.elim
 |_::_,[],_::_,_,_,h,_=>h.elim
 |_::_,_::_,[],_,_,h,_=>h.elim
theorem law_post {H:Type} {enc:TypeId×Value→H} {f:Func} {s:ChangeSpec} {W W':World} {args:Array Value} {ds:List (DataW H)} {before:List MemPlace}
  (hW:DataW.Whole enc Tryz.prog f.params.toList s.vars false W args.toList ds [] before) (hv:s.vars=[]) (hr:f.resultTypes=#[4])
  (hp:∀t∈f.params.toList,Tryz.prog.readableRec t=true∧t<Tryz.prog.types.size)
  (hs:s.fn H (ds++[])={results:=[.lit (.bool true)],args:=ds}) (hb:Below W.heap.size W W'):
  s.post enc Tryz.prog f false true false false W args (.bool true) W':=by
 obtain ⟨p,q,hA,hV,e,hfz,hnd⟩:=id hW;have hlt:=hW.lt;refine ⟨ds,[],before,[],p,[],hW,?_,?_,?_,hb.frame _,fun h=>by cases h⟩
 ·rw [hs,hr];exact trodAll_mk1 (shut_bool Tryz.underlying4 true)
 ·rw [hs];exact trodAll_below hb hp hA (fun x hx=>hlt x (by rw [e];exact List.mem_append_left _ hx))
 ·rw [hs,hv];rfl
theorem Tryz.pow10Named:Tryz.prog.globalNamed "internal/strconv.uint64pow10"=some 17:=by kernel_rfl
theorem Tryz.pow10Type:(Tryz.prog.globals[17]?).map (·.type)=some 281:=by kernel_rfl
theorem Tryz.cellsU64:Tryz.prog.cellsOf 252=1:=by kernel_rfl
theorem Tryz.cells20:Tryz.prog.cellsOf 281=20:=by kernel_rfl
theorem powTab_of {W:World} {rest:List (String×DataW Unit)} (h:laidMet Tryz.prog (("internal/strconv.uint64pow10",Lib.tabData .u64 Lib.pow10Tab)::rest) W):PowTab W:=
 Lib.tabIs_of_head Tryz.pow10Named Tryz.pow10Type Tryz.underlying281 Tryz.underlying252 Tryz.cellsU64 Tryz.cells20 h
variable {H:Type} {enc:TypeId×Value→H}
theorem handed_shaped {a:Assume} {C:Checked} {os:Os} {f:FuncId} {fn:Func} {s:ChangeSpec} {conds:List PathCond} {apart fresh handsOn again:Bool} {X:World→Array Value→Prop}
  (hX:∀(w w':World) (args:Array Value),w.heap=w'.heap→X w args→X w' args)
  (own:ownKnob C.prog.godebug=none) (started:os.Started) (noInit:C.prog.inits.idxOf? f=none) (hfn:C.prog.funcs[f]? =some fn)
  (witness:∃(w:World) (tape:Tape) (i:Input),w.os=os∧(w.forCall tape i).Shaped C.prog∧i.vars=[]∧Input.okWide C.prog (w.forCall tape i) .any w.heap.size f i∧
   ((s.pre enc C.prog fn conds apart (w.forCall tape i).memory i.args∧X (w.forCall tape i).memory i.args)∧sizedMet enc C.prog fn (OpenSpec.ofChange s) apart (w.forCall tape i).memory i.args)∧a.holds C.prog (lone (Frame.enter C.prog f i.args .normal) [] (w.forCall tape i)))
  (walk:∀(W:World) (base:Nat) (args:Array Value) (ds gs:List (DataW H)) (before:List MemPlace),
   (∀(j:Nat) t v,fn.params[j]? =some t→args[j]? =some v→Value.okWide C.prog W .any base t v)→
   DataW.Whole enc C.prog fn.params.toList s.vars apart W args.toList ds gs before→
   conds.all (PathCond.test C.prog ⟨fn.params.toList,ds,s.plain.varTypes C.prog,gs⟩)=true→
   (DataW.weightsEach C.prog (fn.params.toList++s.plain.varTypes C.prog) (ds++gs)).all (·≤reachBytes)=true→X W args→W.ShapedOpen C.prog→
   a.holds C.prog (lone (Frame.enter C.prog f args .normal) [] W)→
   Calls C.prog f args W fun e W'=>∃v,e=.returned v∧s.post enc C.prog fn apart fresh handsOn again W args v W'):
  ReturnsInHanded a C os f .any (fun w args=>(s.pre enc C.prog fn conds apart w args∧X w args)∧sizedMet enc C.prog fn (OpenSpec.ofChange s) apart w args) (s.post enc C.prog fn apart fresh handsOn again):=by
 refine returnsInHanded_of_calls own started noInit witness fun w tape i _ hsh _ hok hpre hholds=>?_
 obtain ⟨_,_,_,g,hg,_,_,_,_,hval⟩:=hok;obtain rfl:g=fn:=Option.some.inj (hg.symm.trans hfn);obtain ⟨⟨⟨ds,gs,before,hw,hc⟩,hx⟩,hz⟩:=hpre;refine (walk _ w.heap.size i.args ds gs before hval (DataW.Whole.of_heap (w':=w.forCall tape i) (by rfl) hw) hc (hz.weights hw) (hX _ _ _ (by rfl) hx) hsh hholds).mono ?_;rintro e W' ⟨v,rfl,hp⟩;exact ChangeSpec.post_blind hp
theorem maxI_of {W:World} (h:W.ShapedOpen Tryz.prog):∃m,W.cell? ⟨14,0,none⟩=some (.int .i64 m):=
 cell_of_shapedOpen_int (t:=3) (zero:=#[.int .i64 0]) h (by decide+kernel) (by kernel_rfl) rfl (by kernel_rfl) (by kernel_rfl) Tryz.underlying3
def packConv:List (String×List UInt8):=[("strconv.ErrRange",[118,97,108,117,101,32,111,117,116,32,111,102,32,114,97,110,103,101]),("strconv.ErrSyntax",[105,110,118,97,108,105,100,32,115,121,110,116,97,120])]
def packErrs:List (String×List UInt8):=apiErrs++packConv
theorem packErrs_typed:(packErrs.all fun x=>(Tryz.prog.globalNamed x.1).bind (fun g=>(Tryz.prog.globals[g]?).map (·.type))==some 27)=true:=by kernel_rfl
theorem pack_env {W:World} {laid:List (String×DataW Unit)} {a b c:String×DataW Unit} {rest:List (String×DataW Unit)} (h:laidMetH Tryz.prog laid W)
  (f1:(laid.filter fun x=>x.2.handleName?.isSome)=[("errors.errorType",Rows.laid_errors_errorType)])
  (f2:(laid.filter fun x=>x.2.handleName?.isNone)=a::b::("internal/strconv.uint64pow10",Lib.tabData .u64 Lib.pow10Tab)::c::(packErrs.map (fun x=>(x.1,sentD x.2))++rest)) (hm:W.ShapedOpen Tryz.prog):∃E,REnv E W:=by
 have g2:(packErrs.map (fun x=>(x.1,sentD x.2))++rest)=(apiErrs.map (fun x=>(x.1,sentD x.2))++(packConv.map (fun x=>(x.1,sentD x.2))++rest)):=by
  unfold packErrs;rw [List.map_append,List.append_assoc]
 unfold laidMetH at h;rw [f1,f2] at h;have h3:=h.1.tail.tail;have h5:=h3.tail.tail;have h6:=h5;rw [g2] at h6;obtain ⟨E,hE⟩:=env_of h6 (handle_of h.2 (List.mem_singleton.2 rfl));obtain ⟨ps,hv,hnd,hrows⟩:=h5;obtain ⟨ads,hS,_⟩:=sents_of packErrs packErrs_typed hv hnd hrows;exact ⟨E,⟨⟨⟨hE,⟨hE.eName,hE.eFull,maxI_of hm⟩⟩,powTab_of h3⟩,⟨⟨_,Sents.at hS 14 (by decide) _ (by kernel_rfl),.inr ⟨_,_,rfl⟩⟩,⟨_,Sents.at hS 13 (by decide) _ (by kernel_rfl),.inr ⟨_,_,rfl⟩⟩⟩⟩⟩
def TxArg (w:World) (v:Value) (l:List ByteArray):Prop:=
 ∃ao cap,v=.slice ao l.length cap∧l.length≤cap∧cap≤maxLen∧(∀i,i<l.length→∃b off,ao=some ⟨b,off,none⟩∧b<w.heap.size∧∀k,(hk:k<l.length)→w.cell? ⟨b,off+k,none⟩=some (.string l[k]))
theorem TxArg.ext {w w':World} {v:Value} {l:List ByteArray} (h:TxArg w v l) (hb:Below w.heap.size w w'):TxArg w' v l:=by
 obtain ⟨ao,cap,h1,h2,h3,h4⟩:=h;refine ⟨ao,cap,h1,h2,h3,fun i hi=>?_⟩;obtain ⟨b,off,e,hbl,hc⟩:=h4 i hi;exact ⟨b,off,e,Nat.lt_of_lt_of_le hbl hb.size,fun k hk=>by rw [hb.cell (p:=⟨b,off+k,none⟩) hbl];exact hc k hk⟩
theorem TxArg.len {w:World} {v:Value} {l:List ByteArray} (h:TxArg w v l):∃ao cap,v=.slice ao l.length cap:=by
 obtain ⟨ao,cap,e,_⟩:=h;exact ⟨ao,cap,e⟩
theorem TxArg.at {w:World} {ao:Option Addr} {n cap k:Nat} {l:List ByteArray} (h:TxArg w (.slice ao n cap) l) (hk:k<l.length):∃b off,ao=some ⟨b,off,none⟩∧b<w.heap.size∧w.cell? ⟨b,off+k,none⟩=some (.string l[k]):=by
 obtain ⟨ao',cap',e,_,_,h4⟩:=h;injection e with e0 _ _
 subst e0;obtain ⟨b,off,e,hbl,hc⟩:=h4 k hk;exact ⟨b,off,e,hbl,hc k hk⟩
theorem Tryz.cellsStrA:Tryz.prog.cellsOf 9=1:=by kernel_rfl
section
variable {H:Type} {enc:TypeId×Value→H} {W:World} {spare:Nat→Bool} {held:Bool}
theorem open_tx {fuel:Nat} {v:Value} {x:DataW H×List MemPlace} (h:DataW.trod enc Tryz.prog W 0 spare held fuel 22 [v]=some x):∃zs:List ByteArray,TxArg W v zs:=by
 rcases open_strs Tryz.underlying22 Tryz.underlying9 Tryz.cellsStrA h with ⟨hcs,hx⟩|⟨a,len,cap,m,Sx,hcs,_,hl,hm,hmm,hx,hcell⟩
 ·obtain rfl:v=.slice none 0 0:=by simpa using hcs
  exact ⟨[],none,0,rfl,Nat.le_refl _,Nat.zero_le _,fun i hi=>absurd hi (Nat.not_lt_zero _)⟩
 ·obtain rfl:v=.slice (some a) len cap:=by simpa using hcs
  have hlm:len≤m:=by rw [hmm];split<;>omega
  refine ⟨(List.range len).map Sx,some a,cap,by simp,by simp;omega,hm,fun i hi=>?_⟩;simp only [List.length_map,List.length_range] at hi;have hc0:=(hcell i (by omega)).1;obtain ⟨b,off,spot⟩:=a;have hspot:spot=none:=World.cell?_spot (a:=⟨b,off,spot⟩) (hcell 0 (by omega)).1;subst hspot;refine ⟨b,off,rfl,by rw [add_plain] at hc0;exact World.block_lt_of_cell? W _ hc0,fun k hk=>?_⟩;simp only [List.length_map,List.length_range] at hk;have:=(hcell k (by omega)).1;rw [add_plain] at this;simpa using this
end
section
variable {H:Type} {enc:TypeId×Value→H} {W:World} {spare:Nat→Bool} {held:Bool}
theorem open_txr {fuel:Nat} {v:Value} {x:DataW H×List MemPlace} (h:DataW.trod enc Tryz.prog W 0 spare held fuel 22 [v]=some x):∃zs:List ByteArray,RowP W v zs:=by
 obtain ⟨zs,ao,cap,rfl,h1,h2,h3⟩:=open_tx h;refine ⟨zs,ao,cap,rfl,h1,h2,fun hn=>?_,h3⟩;subst hn;rcases open_strs Tryz.underlying22 Tryz.underlying9 Tryz.cellsStrA h with ⟨hcs,_⟩|⟨a,len,cap2,m,Sx,hcs,_⟩
 ·simp at hcs;exact hcs.2
 ·simp at hcs
theorem open_texts_row {v:Value} {d:DataW H} {p:List MemPlace} {r:Reach} {base:Nat} (hok:Value.okWide Tryz.prog W r base 22 v) (h:DataW.Trod enc Tryz.prog W 0 spare held 22 v d p):∃l:List ByteArray,RowP W v l:=by
 obtain ⟨a,len,cap,rfl⟩:=okWide_slice Tryz.underlying22 hok;obtain ⟨fuel,hf⟩:=h;exact open_txr hf
end
end Go.Proofs.YtaabgmbjmfjdjaaGreatDoor
