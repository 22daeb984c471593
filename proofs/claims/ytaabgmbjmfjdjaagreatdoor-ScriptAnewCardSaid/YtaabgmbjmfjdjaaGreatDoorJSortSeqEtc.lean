import Derived.Test.YtaabgmbjmfjdjaaGreatDoorJRanged
import Derived.Test.YtaabgmbjmfjdjaaGreatDoorJPackedUpEtc
import Derived.BigRegionIn
import Derived.Test.YtaabgmbjmfjdjaaGreatDoorJSortSymAEtc
import Derived.Test.YtaabgmbjmfjdjaaGreatDoorJTreePlains
import Derived.Sort.OwnSorted
import Derived.Test.YtaabgmbjmfjdjaaGreatDoorJToldEtc
namespace Go.Proofs.YtaabgmbjmfjdjaaGreatDoor
open Go Go.RowKit Go.Shelf Go.Sort
set_option maxHeartbeats 4000000
set_option maxRecDepth 100000
attribute [local go_sem] Oper.semAt_some
theorem cell_of_block {W W':World} {b o:Nat} (h:W'.heap[b]? =W.heap[b]?):W'.cell? ⟨b,o,none⟩=W.cell? ⟨b,o,none⟩:=by simp [World.cell?,h]
def Calm0 {β:Type} (B:Nat) (I:β→World→Prop):Prop:=
 ∀s W W' row,I s W→W.grownBy W' row→(∀r,row=some r→B≤r∧∃o:Obj,W.heap[r]? =some o∧o.isCells=false)→I s W'
theorem Calm0.put {β:Type} {B:Nat} {I:β→World→Prop} (h:Calm0 B I) {s:β} {W:World} {l:Nat} {o:Obj} (o':Obj) (hs:I s W) (hB:B≤l) (hl:W.heap[l]? =some o) (ho:o.isCells=false):I s (W.putObj l o'):=
 h s W _ (some l) hs (grownBy_putObj' W l o') (fun r e=>by cases e;exact ⟨hB,o,hl,ho⟩)
theorem Calm0.alloc {β:Type} {B:Nat} {I:β→World→Prop} (h:Calm0 B I) {s:β} {W:World} (o:Obj) (hs:I s W):I s (W.alloc o):=
 h s W _ none hs (World.grownBy_alloc W o none) (fun r e=>by cases e)
def Yields0 {α:Type} (F:Fence) (n:Nat) (P:Program) (gf:Nat) (lb:Array Value) (encs:α→Array Value) (lo hi N:Nat) (S Sp:List α→Prop) (w:World):Prop:=
 ∀(l:Nat) (J Jx:List α→World→Prop) (W:World),Below w.heap.size w W→Calm0 W.heap.size J→Calm0 W.heap.size Jx→
  (∀pre x W1,J pre W1→pre.length<N→YieldAt F (n-1) P l (encs x) W1 fun e W'=>(e=.returned (.bool true)∧J (pre++[x]) W'∧Same lo hi W1 W')∨(e=.returned (.bool false)∧Jx (pre++[x]) W'))→
  J [] W→CallsIn F n P gf (#[.func (.yield l) #[] #[]]++lb) W fun e W'=>(∃v,e=.returned v)∧((∃xs,S xs∧J xs W')∨(∃pre,Sp pre∧Jx pre W'))
def leftOf (n:Nat):Value→Nat
 |.int _ z=>n-z.toNat
 |_=>0
theorem valuesOne_in (l Bs B b off cap:Nat) (fs:List FileB) (hn:fs.length≤10000) (m:Nat) (J Jx:List FileB→World→Prop) (hJ:Calm0 B J) (W:World)
  (hY:∀pre x W1,J pre W1→pre.length<10001→YieldAt Fence.wide (m-1) Tryz.prog l #[.agg #[.string x.path,.bool x.run,.string x.text]] W1 fun e W'=>(e=.returned (.bool true)∧J (pre++[x]) W'∧Same b (b+1) W1 W')∨(e=.returned (.bool false)∧Jx (pre++[x]) W'))
  (k1:Boxed W Bs 124 (.slice (some ⟨b,off,none⟩) fs.length cap)) (_:b<W.heap.size) (hcap:fs.length≤cap) (_:cap≤maxLen)
  (hc:∀i,(hi:i<fs.length)→W.cell? ⟨b,off+i*3,none⟩=some (.string fs[i].path)∧W.cell? ⟨b,off+i*3+1,none⟩=some (.bool fs[i].run)∧W.cell? ⟨b,off+i*3+2,none⟩=some (.string fs[i].text)) (h0:J [] W):
  CallsIn Fence.wide m Tryz.prog 186 #[.func (.yield l) #[] #[],.pointer (some ⟨Bs,0,none⟩)] W fun e W'=>
   (∃v,e=.returned v)∧((∃xs,xs=fs∧J xs W')∨(∃pre,True∧Jx pre W')):=by
 have HC:=Lib.hid hc;clear hc;obtain ⟨n,hnn⟩:∃n,fs.length=n:=⟨_,rfl⟩;have HN:=Lib.hid hnn;rw [hnn] at k1 hn hcap;clear hnn;refine callsIn_of_wp Tryz.func186 rfl trivial ?_ rfl;simp only [Tryz.ntmps186,List.size_toArray,List.length_cons,List.length_nil,Nat.reduceAdd,Nat.reduceSub,Array.replicate_succ,Array.replicate_zero,List.push_toArray,List.append_toArray,List.nil_append,List.cons_append];have q1:=k1.cell
 gi_wp2
 gi_loopw [7] (fun v7 wr=>∃i:Nat,v7=.int .i64 i∧i≤n∧Hid (J (fs.take i) wr)∧Hid (wr.heap[b]? =W.heap[b]?)) (fun v7 _=>leftOf n v7)
 case atStart=>exact ⟨0,rfl,Nat.zero_le _,h0,rfl⟩
 case round=>
  clear q1 k1;obtain ⟨i,rfl,hin,HJ1,HS⟩:=hrel;by_cases hi:i<n
  ·have hif:i<fs.length:=by rw [HN.out];exact hi
   obtain ⟨c0,c1,c2⟩:=HC.out i hif;rw [←cell_of_block HS.out] at c0 c1 c2;have HJ2:=Lib.hid (hJ.alloc (.cells #[.string fs[i].path,.bool fs[i].run,.string fs[i].text] 170) HJ1.out);have HS2:Hid ((wr.alloc (.cells #[.string fs[i].path,.bool fs[i].run,.string fs[i].text] 170)).heap[b]? =W.heap[b]?):=by
    have hlt:b<wr.heap.size:=lt_of_cell (w:=wr) (a:=⟨b,_,none⟩) c0;exact (Below.heap_alloc _ _ b hlt).trans HS.out
   obtain ⟨fn,tmps,assign,body,hy,hR⟩:=hY (fs.take i) fs[i] _ HJ2.out (by rw [List.length_take];omega);have HT:Hid (fs.take i++[fs[i]]=fs.take (i+1)):=by show _=_;rw [List.take_succ_eq_append_getElem hif]
   rw [HT.out] at hR;clear HJ1 HS HC hY
   gi_wp2
   refine ⟨fun h=>absurd h (by decide),hR.mono ?_⟩;rintro e W3 (⟨rfl,hJ3,hk3⟩|⟨rfl,hJx3⟩)
   ·gi_wp2
    go_roundw
    case rel=>exact ⟨i+1,by go_num,by omega,hJ3,(hk3 b (Nat.le_refl _) (Nat.lt_succ_self _)).trans HS2.out⟩
    case measure=>simp only [leftOf];omega
   ·gi_wp2
    refine bodyPost_ret (results_none rfl _ _ _) rfl ?_;exact ⟨⟨_,rfl⟩,.inr ⟨_,trivial,hJx3⟩⟩
  ·obtain rfl:i=n:=by omega
   have HT:Hid (fs.take i=fs):=List.take_of_length_le (by rw [HN.out];exact Nat.le_refl _);rw [HT.out] at HJ1;clear HC hY
   gi_wp2
   go_end0
   exact ⟨⟨_,rfl⟩,.inl ⟨fs,rfl,HJ1.out⟩⟩
variable {F:Fence} {n:Nat} {P:Program}
theorem range_alloc {α:Type} {g:Operand} {ps:Array Tmp} {assign body:Code} {Q:Exit→Act→World→Prop} {a:Act} {w:World}
  (hro:F.round=none) (h1:1≤n) {gf:Nat} {lb:Array Value} (hg:a.eval g=.func (.func gf) #[] lb) (hFg:F.fn gf) (eg:∀args w,(callFunc gf args).run P w=.ok (.enter gf args) w)
  {encs:α→Array Value} {lo hi N:Nat} {S Sp:List α→Prop} (hhi:hi≤w.heap.size) (hseq:Yields0 F (n-1) P gf lb encs lo hi N S Sp w) (hps:∀x,(encs x).size=ps.size)
  (I Ix:List α→World→Prop) (hI:Calm0 w.heap.size I) (hIx:Calm0 w.heap.size Ix) (h0:I [] w) (ob:α→Obj) (a₁:α→Nat→Act)
  (hassign:∀(l:Nat) (x:α) (W:World) (K:Act→World→Prop),K (a₁ x W.heap.size) (W.alloc (ob x))→
   assign.wpIn (F.inRound l) (n-1-1) P (Exit.then K (fun _ _ _=>False)) {tmps:=(ps.zip (encs x)).foldl (fun t (p,v)=>t.setIfInBounds p v) a.tmps,defers:=[]} W)
  (hbody:∀(l:Nat) (pre:List α) (x:α) (h:Nat) (W:World),I pre W→pre.length<N→W.heap[h]? =some (ob x)→w.heap.size+2≤h→body.wpIn (F.inRound l) (n-1-1) P (roundEnd w.heap.size lo hi I Ix (pre++[x]) W) (a₁ x h) W)
  (hdone:∀(D:Nat) (xs:List α) (W:World),w.heap.size≤D→S xs→I xs W→W.heap[D]? =some (.deferred (some []))→Q .normal {a with defers:={target:= .collected D,args:=#[]}::a.defers} W)
  (hstop:∀(D:Nat) (pre:List α) (W:World),w.heap.size≤D→Sp pre→Ix pre W→W.heap[D]? =some (.deferred (some []))→Code.ret.wpIn F n P Q {a with defers:={target:= .collected D,args:=#[]}::a.defers} W):
  (Code.rangeFunc g ps assign body).wpIn F n P Q a w:=by
 refine wpIn_rangeFunc fun fn hfn=>?_
 rw [hro]
 let D:=w.heap.size
 let l:=w.heap.size+1
 let rc:LoopState→Option Code→Loop:=fun st pe=>{state:=st,pending:=pe,fn,tmps:=a.tmps,params:=ps,assign,body,defers:=w.heap.size}
 let W1:=(w.alloc (.deferred (some []))).alloc (.loop (rc .ready none))
 have hl1:W1.heap[l]? =some (.loop (rc .ready none)):=by
  have:=World.alloc_heap_new (w.alloc (.deferred (some []))) (.loop (rc .ready none));rwa [World.size_alloc] at this
 have hd1:W1.heap[D]? =some (.deferred (some [])):=(Below.heap_alloc _ _ _ (by simp [D])).trans (World.alloc_heap_new w _);have hb1:Below w.heap.size w W1:=((Below.refl _ w).alloc (Nat.le_refl _) _).alloc (by simp) _;have hs1:W1.heap.size=w.heap.size+2:=by simp [W1]
 have hi1:I [] W1:=hI.alloc _ (hI.alloc _ h0);refine ⟨l,[{target:= .collected D,args:=#[]}],W1,{target:= .fn (.func gf) lb,args:=#[.func (.yield l) #[] #[]]},W1,gf,#[.func (.yield l) #[] #[]]++lb,W1,
  run_enterLoop_outer _ _ _ _ _,?_,?_,?_,fun _=>h1,?_⟩
 ·simp only [resolve,hg];simp [go_sem]
 ·intro f' hf';simp [Target.leads] at hf';subst hf';exact hFg
 ·simp [invoke,go_sem,eg]
 have keepRow:∀{A B:World} {row:Option Nat} {k:Nat} {o:Obj},A.grownBy B row→(∀r,row=some r→(W1.heap.size≤r∧∃o:Obj,A.heap[r]? =some o∧o.isCells=false))→k<W1.heap.size→A.heap[k]? =some o→B.heap[k]? =some o:=by
  intro A B row k o hgr hr hk ho;refine (hgr.block k (Array.getElem?_eq_some_iff.1 ho).1 (fun e=>?_)).trans ho;obtain ⟨h,_⟩:=hr k e.symm;omega
 have weaken:∀{A:World} {row:Option Nat},(∀r,row=some r→(W1.heap.size≤r∧∃o:Obj,A.heap[r]? =some o∧o.isCells=false))→(∀r,row=some r→(w.heap.size≤r∧∃o:Obj,A.heap[r]? =some o∧o.isCells=false)):=
  fun h r e=>⟨by have:=(h r e).1;omega,(h r e).2⟩
 refine (hseq l (fun pre W=>I pre W∧W.heap[l]? =some (.loop (rc .ready none))∧W.heap[D]? =some (.deferred (some [])))
  (fun pre W=>Ix pre W∧W.heap[l]? =some (.loop (rc .done (some .ret)))∧W.heap[D]? =some (.deferred (some []))) W1 hb1
  (fun s A B row hs hgr hr=>⟨hI s A B row hs.1 hgr (weaken hr),keepRow hgr hr (by omega) hs.2.1,keepRow hgr hr (by omega) hs.2.2⟩)
  (fun s A B row hs hgr hr=>⟨hIx s A B row hs.1 hgr (weaken hr),keepRow hgr hr (by omega) hs.2.1,keepRow hgr hr (by omega) hs.2.2⟩) ?_ ⟨hi1,hl1,hd1⟩).mono ?_
 ·rintro pre x W ⟨hJ,hl,hd⟩ hN;have hlt:l<W.heap.size:=(Array.getElem?_eq_some_iff.1 hl).1;have hsz:w.heap.size+2≤W.heap.size:=by omega
  obtain ⟨Wa,hWa⟩:∃Wa,W.alloc (ob x)=Wa:=⟨_,rfl⟩;have hla:Wa.heap[l]? =some (.loop (rc .ready none)):=by rw [←hWa];exact (Below.heap_alloc _ _ _ hlt).trans hl
  have hda:Wa.heap[D]? =some (.deferred (some [])):=by rw [←hWa];exact (Below.heap_alloc _ _ _ (by omega)).trans hd
  have hna:Wa.heap[W.heap.size]? =some (ob x):=by rw [←hWa];exact World.alloc_heap_new W _
  have hJa:I pre Wa:=by rw [←hWa];exact hI.alloc _ hJ
  have hsa:Same lo hi W Wa:=by rw [←hWa];exact Same.grown (World.grownBy_alloc W _ none) (by omega) (fun r e=>by cases e)
  have hlta:l<Wa.heap.size:=(Array.getElem?_eq_some_iff.1 hla).1;refine ⟨fn,_,assign,body,run_yield (P:=P) (args:=encs x) hl (hps x),roundIn_of_wpIn hfn (hassign _ x W _ ?_)⟩;rw [hWa];refine ⟨_,run_beginRound hla rfl,?_⟩;have hl2:(Wa.putObj l (.loop (rc .busy none))).heap[l]? =some (.loop (rc .busy none)):=World.putObj_heap_same hlta;have hd2:(Wa.putObj l (.loop (rc .busy none))).heap[D]? =some (.deferred (some [])):=(World.putObj_heap_other (by omega)).trans hda;have hn2:(Wa.putObj l (.loop (rc .busy none))).heap[W.heap.size]? =some (ob x):=(World.putObj_heap_other (by omega)).trans hna;refine wpIn_mono (hbody l pre x _ _ (hI.put _ hJa (by omega) hla rfl) hN hn2 hsz) ?_;rintro e a3 W3 hp
  match e,hp with
  |.normal,⟨hk,hsm,hi3⟩=>
   have hl3:=hk.same _ _ (by omega) hl2 rfl;have hd3:=hk.same _ _ (by omega) hd2 rfl;exact ⟨_,_,run_endRound none hl3,.inl ⟨rfl,⟨hI.put _ hi3 (by omega) hl3 rfl,World.putObj_heap_same (Array.getElem?_eq_some_iff.1 hl3).1,(World.putObj_heap_other (by omega)).trans hd3⟩,
    ((hsa.put (by omega) _).trans hsm).put (by omega) _⟩⟩
  |.ret,⟨hk,hi3⟩=>
   have hl3:=hk.same _ _ (by omega) hl2 rfl;have hd3:=hk.same _ _ (by omega) hd2 rfl;exact ⟨_,_,run_endRound (some .ret) hl3,.inr ⟨rfl,hIx.put _ hi3 (by omega) hl3 rfl,World.putObj_heap_same (Array.getElem?_eq_some_iff.1 hl3).1,(World.putObj_heap_other (by omega)).trans hd3⟩⟩
 ·rintro e W2 ⟨⟨v,rfl⟩,(⟨xs,hS,hi,hl,hd⟩|⟨pre,hSp,hi,hl,hd⟩)⟩
  ·exact ⟨none,_,run_endLoop hl (by simp [rc]),hdone D xs _ (Nat.le_refl _) hS (hI.put _ hi (by omega) hl rfl) ((World.putObj_heap_other (by omega)).trans hd)⟩
  ·exact ⟨some .ret,_,run_endLoop hl (by simp [rc]),hstop D pre _ (Nat.le_refl _) hSp (hIx.put _ hi (by omega) hl rfl) ((World.putObj_heap_other (by omega)).trans hd)⟩
theorem valuesYields (w0:World) (Bs b off cap:Nat) (fs:List FileB) (hn:fs.length≤10000) (m:Nat)
  (k1:Boxed w0 Bs 124 (.slice (some ⟨b,off,none⟩) fs.length cap)) (hbl:b<w0.heap.size) (hcap:fs.length≤cap) (hmax:cap≤maxLen)
  (hc:∀i,(hi:i<fs.length)→w0.cell? ⟨b,off+i*3,none⟩=some (.string fs[i].path)∧w0.cell? ⟨b,off+i*3+1,none⟩=some (.bool fs[i].run)∧w0.cell? ⟨b,off+i*3+2,none⟩=some (.string fs[i].text)):
  Yields0 Fence.wide m Tryz.prog 186 #[.pointer (some ⟨Bs,0,none⟩)] (fun x:FileB=>#[Value.agg #[.string x.path,.bool x.run,.string x.text]]) b (b+1) 10001
   (fun xs=>xs=fs) (fun _=>True) w0:=by
 intro l J Jx W hb hJ hJx hY h0;have e:∀b,b<w0.heap.size→W.heap[b]? =w0.heap[b]?:=fun b h=>hb.block b h
 refine valuesOne_in l Bs _ b off cap fs hn m J Jx hJ W hY ((e _ k1.lt).trans k1) (Nat.lt_of_lt_of_le hbl hb.size) hcap hmax (fun i hi=>?_) h0;rw [cell_of_block (e b hbl),cell_of_block (e b hbl),cell_of_block (e b hbl)];exact hc i hi
theorem values_any (ao:Option Addr) (n c:Nat) (w:World):Calls Tryz.prog 148 #[.slice ao n c] w fun e w'=>
  e=.returned (.func (.func 186) #[] #[.pointer (some ⟨w.heap.size,0,none⟩)])∧w'=w.alloc (.cells #[.slice ao n c] 124):=by
 go_enter Tryz.func148,Tryz.ntmps148;go_wp2_with fail;go_ret;exact ⟨rfl,rfl⟩
def Came (w:World) (h:Nat) (pre:List FileB) (W:World):Prop:=
 ∃v,Boxed W h 124 v∧FOwn W h v pre∧Below h w W∧h+1≤W.heap.size
theorem boxed_calm0 {X Y:World} {row:Option Nat} {B b:Nat} {t:TypeId} {v:Value} (h:Boxed X b t v) (hg:X.grownBy Y row) (hr:∀r,row=some r→B≤r∧∃o:Obj,X.heap[r]? =some o∧o.isCells=false) (h2:b<B):Boxed Y b t v:=
 h.kept hg (fun e=>by have:=(hr b e.symm).1;omega)
theorem came_calm (w:World) (h:Nat):Calm0 (h+1) (Came w h):=by
 rintro s X Y row ⟨v,hv,hr,hB,hs⟩ hg hrow;refine ⟨v,boxed_calm0 hv hg hrow (by omega),World.ownsRow.kept hr hg ?_,hB.grown hg (by omega) (fun k e=>by have:=(hrow k e).1;omega),Nat.le_trans hs hg.size⟩;rcases hr.2 with ⟨rfl,_⟩|⟨g,cap,cur,rfl,hgb,hgc,_⟩
 ·exact .inl rfl
 ·refine .inr fun e'=>?_
  obtain ⟨_,o,ho,hc⟩:=hrow g (by simpa [Value.ownBlock] using e'.symm);rw [hgc] at ho;cases ho;cases hc
theorem appendSeq_of (fs:List FileB) (Bs lo hi:Nat) (w:World) (_:hi≤w.heap.size+1) (hn:fs.length≤10000)
  (hY:Yields0 Fence.wide 4 Tryz.prog 186 #[.pointer (some ⟨Bs,0,none⟩)] (fun x:FileB=>#[Value.agg #[.string x.path,.bool x.run,.string x.text]]) lo hi 10001 (fun xs=>xs=fs) (fun _=>True) (w.alloc (.cells #[.slice none 0 0] 124))) (hlow:hi≤w.heap.size):
  Calls Tryz.prog 218 #[.slice none 0 0,.func (.func 186) #[] #[.pointer (some ⟨Bs,0,none⟩)]] w fun e w'=>
   ∃v,e=.returned v∧FOwn w' w.heap.size v fs∧Below w.heap.size w w':=by
 obtain ⟨i0,hi0,hz0,hz1,hz2⟩:=info_parts Tryz.infoFile;have HY:=Lib.hid hY;clear hY;refine (callsIn_wide (n:=5)).1 ?_;refine callsIn_of_wp_marks Tryz.func218 rfl trivial ?_ rfl;simp only [Tryz.ntmps218,List.size_toArray,List.length_cons,List.length_nil,Nat.reduceAdd,Nat.reduceSub,Array.replicate_succ,Array.replicate_zero,List.push_toArray,List.append_toArray,List.nil_append,List.cons_append];have hsz:(w.alloc (.cells #[.slice none 0 0] 124)).heap.size=w.heap.size+1:=by simp
 have b0:Below w.heap.size w (w.alloc (.cells #[.slice none 0 0] 124)):=(Below.refl _ w).alloc (Nat.le_refl _) _;have j1:Boxed (w.alloc (.cells #[.slice none 0 0] 124)) w.heap.size 124 (.slice none 0 0):=Boxed.new w _ _
 gi_wp2_with fail
 generalize hW:w.alloc (.cells #[.slice none 0 0] 124)=W at*;clear hW;refine range_alloc (N:=10001) (lo:=lo) (hi:=hi) rfl (by omega) (gf:=186) rfl trivial (enters_of Tryz.func186 (by kernel_rfl) rfl)
  (encs:=fun x:FileB=>#[Value.agg #[.string x.path,.bool x.run,.string x.text]]) (by omega) HY.out (fun _=>rfl)
  (Came w w.heap.size) (fun _ _=>False) (by rw [hsz];exact came_calm w _) (fun _ _ _ _ h=>h.elim)
  ⟨.slice none 0 0,j1,World.ownsRow_nil _ _ _ _,b0,by omega⟩
  (fun x=>.cells #[.string x.path,.bool x.run,.string x.text] 170)
  (fun x h=>{tmps:=#[.slice none 0 0,.func (.func 186) #[] #[.pointer (some ⟨Bs,0,none⟩)],.pointer (some ⟨w.heap.size,0,none⟩),undef,.slice none 0 0,.pointer (some ⟨h,0,none⟩),.func (.func 186) #[] #[.pointer (some ⟨Bs,0,none⟩)],.agg #[.string x.path,.bool x.run,.string x.text],undef,undef,undef,undef,undef],defers:=[]}) ?assign ?body ?done ?stop
 case assign=>
  intro l x W K hK
  gi_wp2
  exact hK
 case body=>
  rintro l pre x h W1 ⟨v,hv,hr,hB,hs⟩ hN hx hh;obtain ⟨a,cap,rfl⟩:=FOwn.shape hr;have c3:=hv.cell;have f3:=hv.frozen;have x0:W1.cell? ⟨h,0,none⟩=some (.string x.path):=by simp [World.cell?,hx]
  have x1:W1.cell? ⟨h,1,none⟩=some (.bool x.run):=by simp [World.cell?,hx]
  have x2:W1.cell? ⟨h,2,none⟩=some (.string x.text):=by simp [World.cell?,hx]
  have NEW:∀(j:Nat) (u:Value),[Value.string x.path,.bool x.run,.string x.text][j]? =some u→(W1.alloc (.cells #[.string x.path,.bool x.run,.string x.text] 170)).cell? (Addr.add ⟨W1.heap.size,0,none⟩ j)=some u:=by
   intro j u hj;rw [Addr.add_lit,World.cell?_alloc_at (w:=W1) _ _ W1.heap.size _ rfl]
   match j,hj with
   |0,hj=>simpa using hj
   |1,hj=>simpa using hj
   |2,hj=>simpa using hj
  have ONE:∀u∈[Value.string x.path,.bool x.run,.string x.text],u.oneCell'=true:=by
   intro u hu;simp at hu;rcases hu with rfl|rfl|rfl<;>rfl
  have HNEW:=Lib.hid NEW;have HONE:=Lib.hid ONE;clear NEW ONE
  gi_wp2_with (gi_at_builtin;refine wpListIn_append_own _ rfl _ _ 124 rfl w.heap.size 170 i0 (.agg #[.string ⟨#[]⟩,.bool false,.string ⟨#[]⟩]) 3 40 Tryz.underlying124 hi0 hz0 hz1 hz2 rfl (by decide) _ _ _ rfl (World.ownsRow.alloc hr _) ⟨W1.heap.size,0,none⟩ 1 1 [.string x.path,.bool x.run,.string x.text] rfl rfl HNEW.out HONE.out (by rw [maxLen_eq];omega) (by omega) (by simp;omega) ?_;intro v' w1 hown' hgrow _;obtain ⟨g',cap',rfl⟩:=ownsRow_succ hown';obtain ⟨hv1,hv2,hr2,hk2,hb2⟩:=Boxed.appended (n₀:=w.heap.size) hv (by decide) hr (by omega) (Nat.le_refl _) hown' hgrow;have hc1:=hv1.cell;have hf1:=hv1.frozen)
  have hrow:∀r,(Value.slice a pre.length cap).ownBlock=some r→w.heap.size≤r:=fun r hr'=>(World.ownsRow.lt hr r hr').1
  have ga:=World.grownBy_alloc W1 (.cells #[.string x.path,.bool x.run,.string x.text] 170) none;have gs:=grownBy_setCell' w1 w.heap.size (.slice (some ⟨g',0,none⟩) (pre.length+1) cap');refine ⟨hk2.from _,((Same.grown ga (by omega) (fun r e=>by cases e)).trans (Same.grown hgrow (by simp;omega) (fun r e=>by have:=hrow r e;omega))).trans (Same.grown gs (by have:=hgrow.size;simp at this;omega) (fun r e=>by cases e;omega)),
   _,hv2,?_,hB.trans hb2,Nat.le_trans hs hk2.size⟩
  show World.ownsRow _ _ _ _ _ _ _;rw [List.length_append,List.length_singleton,List.flatMap_append];exact hr2
 case done=>
  rintro D xs W1 hD rfl ⟨v,hv,hr,hB,hs⟩ hK;have c3:=hv.cell
  gi_wp2
  refine ⟨by simp,.inl ⟨_,_,rfl,run_takeDeferred hK,?_⟩⟩;have gp:=grownBy_putObj' W1 D (.deferred none);refine ⟨v,?_,v,rfl,hr.kept gp ?_,hB.grown gp hB.size (fun r e=>by cases e;omega)⟩
  ·simp [results,Tryz.f218,go_sem]
  ·rcases hr.2 with ⟨rfl,_⟩|⟨g,cap,cur,rfl,hgb,hgc,_⟩
   ·exact .inl rfl
   ·refine .inr fun e'=>?_
    have:g=D:=by simpa [Value.ownBlock] using e'
    subst this;rw [hgc] at hK;cases hK
 case stop=>
  rintro D pre W1 hD _ hf;exact hf.elim
theorem collect_of (fs:List FileB) (Bs lo hi:Nat) (w:World) (hn:fs.length≤10000)
  (hY:Yields0 Fence.wide 4 Tryz.prog 186 #[.pointer (some ⟨Bs,0,none⟩)] (fun x:FileB=>#[Value.agg #[.string x.path,.bool x.run,.string x.text]]) lo hi 10001 (fun xs=>xs=fs) (fun _=>True) (w.alloc (.cells #[.slice none 0 0] 124))) (hlow:hi≤w.heap.size):
  Calls Tryz.prog 184 #[.func (.func 186) #[] #[.pointer (some ⟨Bs,0,none⟩)]] w fun e w'=>
   ∃v,e=.returned v∧FOwn w' w.heap.size v fs∧Below w.heap.size w w':=by
 have C:=Lib.hid (appendSeq_of fs Bs lo hi w (by omega) hn hY hlow);clear hY;go_enter Tryz.func184,Tryz.ntmps184;go_wp2_with fail;refine C.out.mono ?_;rintro e w' ⟨v,rfl,h1,h2⟩;go_wp2_with fail;go_ret;exact ⟨v,rfl,h1,h2⟩
theorem valuesNone_in (l Bs _ c:Nat) (ao:Option Addr) (m:Nat) (J Jx:List FileB→World→Prop) (W:World) (k1:Boxed W Bs 124 (.slice ao 0 c)) (h0:J [] W):
  CallsIn Fence.wide m Tryz.prog 186 #[.func (.yield l) #[] #[],.pointer (some ⟨Bs,0,none⟩)] W fun e W'=>
   (∃v,e=.returned v)∧((∃xs,xs=[]∧J xs W')∨(∃pre,True∧Jx pre W')):=by
 refine callsIn_of_wp Tryz.func186 rfl trivial ?_ rfl;simp only [Tryz.ntmps186,List.size_toArray,List.length_cons,List.length_nil,Nat.reduceAdd,Nat.reduceSub,Array.replicate_succ,Array.replicate_zero,List.push_toArray,List.append_toArray,List.nil_append,List.cons_append];have q1:=k1.cell
 gi_wp2
 gi_loopw [7] (fun v7 wr=>v7=.int .i64 0∧Hid (J [] wr)) (fun _ _=>0)
 case atStart=>exact ⟨rfl,h0⟩
 case round=>
  clear q1 k1;obtain ⟨rfl,HJ1⟩:=hrel
  gi_wp2
  go_end0
  exact ⟨⟨_,rfl⟩,.inl ⟨[],rfl,HJ1.out⟩⟩
theorem collect_any (v:Value) (fs:List FileB) (w:World) (hn:fs.length≤10000) (hv:FRow w v fs):
  Calls Tryz.prog 184 #[.func (.func 186) #[] #[.pointer (some ⟨w.heap.size,0,none⟩)]] (w.alloc (.cells #[v] 124)) fun e w'=>
   ∃u,e=.returned u∧FOwn w' (w.heap.size+1) u fs∧Below (w.heap.size+1) (w.alloc (.cells #[v] 124)) w':=by
 obtain ⟨ao,cap,rfl,h1,h2,h3⟩:=hv;have hs:(w.alloc (.cells #[.slice ao fs.length cap] 124)).heap.size=w.heap.size+1:=by simp
 rw [←hs];have k1:=(Boxed.new w 124 (.slice ao fs.length cap)).alloc (.cells #[.slice none 0 0] 124)
 cases fs with
 |nil=>
  refine collect_of [] w.heap.size 0 0 _ (Nat.zero_le _) ?_ (Nat.zero_le _);intro l J Jx W hb hJ hJx hY h0;exact valuesNone_in l _ 0 cap ao 4 J Jx W ((hb.block _ (by simp;omega)).trans k1) h0
 |cons f r=>
  obtain ⟨b,off,rfl,hbl,hc⟩:=h3 0 (by simp);refine collect_of (f::r) w.heap.size b (b+1) _ hn (valuesYields _ w.heap.size b off cap (f::r) hn 4 k1 (by simp;omega) h1 h2 ?_) (by simp;omega);intro i hi;have e:((w.alloc (.cells #[.slice (some ⟨b,off,none⟩) (f::r).length cap] 124)).alloc (.cells #[.slice none 0 0] 124)).heap[b]? =w.heap[b]?:=(Below.heap_alloc _ _ b (by simp;omega)).trans (Below.heap_alloc _ _ b hbl);rw [cell_of_block e,cell_of_block e,cell_of_block e];exact hc i hi
section
open Go.Lib
theorem flatK_files (d:Array FileB):(flatK encFile 3 d).toList=d.toList.flatMap encFile:=by
 apply List.ext_getElem?;intro j;by_cases hj:j<d.size*3
 ·have hi:j/3<d.toList.length:=by rw [Array.length_toList];omega
  have e:=flatMap_at encFile 3 (fun _=>rfl) d.toList (j/3) (j%3) hi (by omega);rw [show j/3*3+j%3=j by omega] at e;rw [e,Array.getElem?_toList];have hs:j<(flatK encFile 3 d).size:=by rw [size_flatK];exact hj
  rw [Array.getElem?_eq_getElem hs];have g:=get_flatK encFile 3 d j hj;rw [getElem!_pos _ j hs] at g;rw [g,getElem!_pos d (j/3) (by omega)];have hl:j%3<(encFile d[j/3]).length:=by show _<3;omega
  rw [getElem!_pos _ (j%3) hl];show _=(encFile d[j/3])[j%3]?;rw [List.getElem?_eq_getElem hl]
 ·rw [List.getElem?_eq_none (by rw [Array.length_toList,size_flatK];omega),List.getElem?_eq_none (by rw [flatMap_len encFile 3 (fun _=>rfl),Array.length_toList];omega)]
theorem heap_putId {w:World} {g n:Nat} {os:Array Obj} {cur:Array Value} {e:TypeId} {fr:Nat×Nat} (d:Array Value) (hb:w.heap[g]? =some (.cells cur e fr)):
  (grow (putRow id (Sort.ahead w n) g 0 d) os).heap[g]? =some (.cells (putCells id 0 d cur) e fr):=by
 have hg:g<w.heap.size:=(Array.getElem?_eq_some_iff.1 hb).1;rw [heap_grow_old _ _ (by simpa using hg)];simp [putRow,mapBlock,Sort.ahead,Array.getElem?_modify,hb,onCells]
theorem grownBy_putId {w:World} {g n:Nat} {os:Array Obj} (d:Array Value):w.grownBy (grow (putRow id (Sort.ahead w n) g 0 d) os) (some g):=by
 refine ⟨rfl,rfl,rfl,by simp,fun k hk hne=>?_⟩;rw [heap_grow_old _ _ (by simpa using hk)];have:g≠k:=fun e=>hne (by rw [e])
 simp [putRow,mapBlock,Sort.ahead,Array.getElem?_modify,this]
theorem take_putId (cur:Array Value) (d:Array Value) (h:d.size≤cur.size):(putCells id 0 d cur).toList.take d.size=d.toList:=by
 apply List.ext_getElem?;intro j;by_cases hj:j<d.size
 ·rw [List.getElem?_take_of_lt hj,Array.getElem?_toList];simp [putCells,hj,show j<cur.size by omega]
 ·rw [List.getElem?_take_eq_none (by omega),List.getElem?_eq_none (by simp;omega)]
theorem SWK.own {w0 w:World} {base g cap:Nat} {cur:Array Value} {d:Array FileB} (S:SWF w0 g 0 d w) (hbase:base≤g) (hb:w0.heap[g]? =some (.cells cur 170 (0,0))) (h1:d.size≤cap) (h2:cap≤maxLen) (h3:cur.size=cap*3):
  FOwn w base (.slice (some ⟨g,0,none⟩) d.size cap) d.toList∧w0.grownBy w (some g):=by
 obtain ⟨n,os,rfl⟩:=S;refine ⟨?_,grownBy_putId _⟩;show World.ownsRow _ _ _ _ _ _ _;rw [←flatK_files,Array.length_toList];refine ⟨by simp,.inr ⟨g,cap,_,rfl,hbase,heap_putId _ hb,h1,h2,by simp [putCells,h3],?_⟩⟩;have:=take_putId cur (flatK encFile 3 d) (by rw [size_flatK];omega);rwa [size_flatK] at this
theorem holdsK_of_block {w:World} {g:Nat} {cur:Array Value} {e:TypeId} (d:Array FileB) (hb:w.heap[g]? =some (.cells cur e (0,0))) (ht:cur.toList.take (d.size*3)=d.toList.flatMap encFile):HoldsK encFile 3 w g 0 d:=by
 intro j hj;rw [size_flatK] at hj;refine ⟨?_,by simp [World.frozen?,hb]⟩;have h1:(cur.toList.take (d.size*3))[j]? =(flatK encFile 3 d).toList[j]?:=by rw [ht,flatK_files]
 rw [List.getElem?_take_of_lt hj] at h1;simp only [World.cell?,hb,Nat.zero_add];simp only [Option.isSome_none,Bool.false_eq_true,if_false];rw [←Array.getElem?_toList,h1,Array.getElem?_toList,Array.getElem?_eq_getElem (by rw [size_flatK];exact hj),getElem!_pos _ j (by rw [size_flatK];exact hj)];rfl
def cfP (x y:FileB):Int:=Lib.compareBytes (bl x.path) (bl y.path)
theorem ltOf_cfP (x y:FileB):ltOf cfP x y=decide (pLt x y):=by
 show decide (cfP x y<0)=decide (pLt x y);exact decide_eq_decide.2 (cmp_lt _ _).1
theorem cfP_swo:SWO (ltOf cfP):=⟨fun x=>by rw [ltOf_cfP];exact decide_eq_false (pLt.irrefl x),fun x y z h1 h2=>by
 rw [ltOf_cfP] at*;exact decide_eq_true (pLt.trans (of_decide_eq_true h1) (of_decide_eq_true h2)),fun x y z h1 h2=>by
 rw [ltOf_cfP] at*;exact decide_eq_false (pLt.ntrans (of_decide_eq_false h1) (of_decide_eq_false h2))⟩
theorem asc_of {d:Array FileB} (h:SortedIn (ltOf cfP) 0 d.size d):Asc d.toList:=by
 refine List.pairwise_iff_getElem.2 fun i j hi hj hij=>?_
 have:=h i j (Nat.zero_le _) hij (by simpa using hj);rw [getElem!_pos d j (by simpa using hj),getElem!_pos d i (by simpa using hi),ltOf_cfP] at this;simpa using of_decide_eq_false this
theorem perm_of {d d':Array FileB} (h:PermIn 0 d.size d d'):d'.toList.Perm d.toList:=by
 have h3:=h.2.2;rw [Array.extract_size] at h3;rwa [show d'.extract 0 d.size=d' by rw [←h.1];exact Array.extract_size] at h3
theorem compare_grow (x y:FileB) (w:World):Calls Tryz.prog 149 #[.agg (encFile x).toArray,.agg (encFile y).toArray] w fun e w'=>e=.returned (.int .i64 (cfP x y))∧∃q os',w'=grow (w.drewN q) os':=by
 go_enter Tryz.func149,Tryz.ntmps149;go_wp2_with fail;refine (Tryz.strings_Compare x.path y.path _).mono ?_;rintro e w' ⟨rfl,rfl⟩;go_wp2_with fail;go_ret;exact ⟨rfl,0,_,by rw [alloc_eq_grow,alloc_eq_grow,grow_grow];rfl⟩
theorem compare_lays (blk off size:Nat) (w:World):CmpLays Tryz.prog 149 #[] encFile 3 cfP blk off size w:=fun _ _ _ _ x y=>compare_grow x y _
def SortedPost (l:List FileB) (w:World) (e:Ending) (w':World):Prop:=
 (∃v m,e=.returned v∧Hid (FOwn w' w.heap.size v m)∧Hid (m.Perm l)∧Hid (Asc m))∧Below w.heap.size w w'
theorem insertionNone_any (fv:Value) (cap:Nat) (w:World):Calls Tryz.prog 240 #[.slice none 0 cap,.int .i64 0,.int .i64 0,fv] w fun e w'=>e=.returned (.tuple #[])∧w=w':=by
 go_enter Tryz.func240,Tryz.ntmps240;go_wp2_with fail
 go_loopg [8] 0 (fun g1 vi wr=>vi=.int .i64 1∧w=wr)
 case atStart=>exact ⟨rfl,rfl⟩
 case round=>
  obtain ⟨rfl,rfl⟩:=hrel;go_wp2_with fail
  go_end0
  exact ⟨rfl,rfl⟩
theorem stableOne_any (fv:Value) (cap:Nat) (w:World):Calls Tryz.prog 219 #[.slice none 0 cap,.int .i64 0,fv] w fun e w'=>e=.returned (.tuple #[])∧w=w':=by
 go_enter Tryz.func219,Tryz.ntmps219;go_wp2_with fail
 go_loopg [7,8] 0 (fun g1 va vb wr=>va=.int .i64 0∧vb=.int .i64 20∧w=wr)
 case atStart=>exact ⟨rfl,rfl,rfl⟩
 case round=>
  obtain ⟨rfl,rfl,rfl⟩:=hrel;go_wp2_with fail;refine (insertionNone_any fv cap w).mono ?_;rintro e w' ⟨rfl,rfl⟩;go_wp2_with fail
  go_loopg [6] 0 (fun g1 vb wr=>vb=.int .i64 20∧w=wr)
  case atStart=>exact ⟨rfl,rfl⟩
  case round=>
   obtain ⟨rfl,rfl⟩:=hrel;go_wp2_with fail
   go_end0
   exact ⟨rfl,rfl⟩
theorem stableNone_any (fv:Value) (cap:Nat) (w:World):Calls Tryz.prog 185 #[.slice none 0 cap,fv] w fun e w'=>e=.returned (.tuple #[])∧w=w':=by
 go_enter Tryz.func185,Tryz.ntmps185;go_wp2_with fail;refine (stableOne_any fv cap w).mono ?_;rintro e w' ⟨rfl,rfl⟩;go_wp2_with fail
 go_end0
 exact ⟨rfl,rfl⟩
theorem sortedFiles_any (v:Value) (l:List FileB) (w:World) (hn:l.length≤10000) (hv:FRow w v l):
  Calls Tryz.prog 147 #[.func (.func 186) #[] #[.pointer (some ⟨w.heap.size,0,none⟩)],.func (.func 149) #[] #[]] (w.alloc (.cells #[v] 124)) (SortedPost l w):=by
 have C:=Lib.hid (collect_any v l w hn hv);have b0:Below w.heap.size w (w.alloc (.cells #[v] 124)):=(Below.refl _ w).alloc (Nat.le_refl _) _;clear hv;go_enter Tryz.func147,Tryz.ntmps147;go_wp2_with fail;refine C.out.mono ?_;rintro e w2 ⟨u,rfl,hu,hb2⟩;have b2:=b0.trans (hb2.mono (by simp));clear C b0 hb2;obtain ⟨ao,cap,rfl⟩:=FOwn.shape hu;have hu2:=id hu;rcases hu2.2 with ⟨h1,h2⟩|⟨g,cap',cur,h1,h2,h3,h4,h5,h6,h7⟩
 ·obtain ⟨rfl,_,rfl⟩:ao=none∧l.length=0∧cap=0:=by simpa using h1
  have e0:l=[]:=List.eq_nil_of_length_eq_zero h2;subst e0;have HU:=Lib.hid hu;have hS:=Lib.hid (stableNone_any (.func (.func 149) #[] #[]) 0 w2);clear hu h1 h2;go_wp2_with fail;refine hS.out.mono ?_;rintro e w3 ⟨rfl,rfl⟩;go_wp2_with fail;go_ret;exact ⟨⟨_,[],rfl,World.ownsRow_nil _ _ _ _,List.Perm.refl _,List.Pairwise.nil⟩,b2⟩
 ·obtain ⟨rfl,rfl⟩:ao=some ⟨g,0,none⟩∧cap=cap':=by simpa using h1
  have hH:HoldsK encFile 3 w2 g 0 l.toArray:=holdsK_of_block l.toArray h3 (by simpa using h7);have R:RowF w2 g 0 l.toArray:=⟨fun _=>rfl,fun f u hu=>by
   simp at hu;rcases hu with rfl|rfl|rfl<;>rfl,hH,(Array.getElem?_eq_some_iff.1 h3).1⟩
  have hS:=sortStable_any cfP 149 #[] (enters_of Tryz.func149 (by kernel_rfl) rfl) cfP_swo g 0 cap l.toArray w2 (compare_lays _ _ _ _) R (by simp;omega);rw [List.size_toArray] at hS;have HS:=Lib.hid hS;have H3:=Lib.hid h3;have H6:=Lib.hid h6;clear hS R hH hu h1 h7 h3 h6;go_wp2_with fail;refine HS.out.mono ?_;rintro e w3 ⟨rfl,d',k1,k2,k3⟩;have e0:l.toArray.size=l.length:=List.size_toArray;have ed:d'.size=l.length:=by rw [k2.1,e0]
  obtain ⟨o1,o2⟩:=SWK.own k1 (base:=w.heap.size) (by omega) H3.out (by rw [ed];exact h4) h5 (by simpa using H6.out);have p1:Hid (d'.toList.Perm l):=by
   show List.Perm _ _;have:=perm_of (d:=l.toArray) (d':=d') (by rw [e0];exact k2);simpa using this
  have p2:Hid (Asc d'.toList):=asc_of (by rw [ed];exact k3);have p3:Hid (FOwn w3 w.heap.size (.slice (some ⟨g,0,none⟩) l.length cap) d'.toList):=by
   show FOwn _ _ _ _;rw [←ed];exact o1
  have b3:Below w.heap.size w w3:=b2.grown o2 b2.size (fun k e=>by cases e;omega);clear k1 k2 k3 o1 o2 HS H3 H6;go_wp2_with fail;go_ret;exact ⟨⟨_,_,rfl,p3,p1,p2⟩,b3⟩
end
theorem dupB_iff:∀{m:List FileB},dupB m=true↔∃i,∃h:i+1<m.length,m[i].path=m[i+1].path
 | []=>by simp [dupB]
 | [f]=>by simp [dupB]
 |f::g::l=>by
  unfold dupB;rw [Bool.or_eq_true,decide_eq_true_iff,dupB_iff (m:=g::l)];constructor
  ·rintro (h|⟨i,hi,h⟩)
   ·exact ⟨0,by simp,h⟩
   ·exact ⟨i+1,by simpa using hi,h⟩
  ·rintro ⟨i,hi,h⟩
   cases i with
   |zero=>exact .inl h
   |succ i=>exact .inr ⟨i,by simpa using hi,h⟩
def TPost (E:Nat→Addr) (r:Er×List FileB) (w:World) (e:Ending) (w':World):Prop:=
 (∃v ev,e=.returned (.tuple #[v,ev])∧Hid (IsErr E w' ev r.1)∧Hid (FOwn w' w.heap.size v r.2))∧Below w.heap.size w w'
theorem TPost.none {E:Nat→Addr} {er:Er} {w w':World} {ev:Value} (h:Hid (IsErr E w' ev er)) (hb:Below w.heap.size w w'):TPost E (er,[]) w (.returned (.tuple #[.slice none 0 0,ev])) w':=
 ⟨⟨_,_,rfl,h,FOwn.nil _ _⟩,hb⟩
theorem IsErr.sent {E:Nat→Addr} {w:World} {k:Nat} (hk:k<13):IsErr E w (sentV E k) ⟨k+1,none⟩:= .inr (.inl ⟨k,hk,rfl,rfl⟩)
theorem FOwn.row {w:World} {base:Nat} {v:Value} {l:List FileB} (h:FOwn w base v l):FRow w v l:=h.arg.1
theorem treeSort_any {E:Nat→Addr} (v:Value) (l:List FileB) (w:World) (hv:FRow w v l) (hl:l.length≤10000) (hS:∀f∈l,SmallF f) (hE:FEnv E w):
  Calls Tryz.prog 111 #[v] w (TPost E (sortT l) w):=by
 have C:=Lib.hid (sortedFiles_any v l w hl hv);have HE:=Lib.hid hE;have HS:=Lib.hid hS;obtain ⟨ao0,cap0,rfl,_⟩:=hv;clear hE hS;go_enter Tryz.func111,Tryz.ntmps111;go_wp2_with fail;refine (values_any ao0 l.length cap0 w).mono ?_;rintro e w1 ⟨rfl,rfl⟩;go_wp2_with fail;refine C.out.mono ?_;rintro e w2 ⟨⟨u,m,rfl,HO,HP,HA⟩,hb⟩;have HD:=Lib.hid (sortT_any HP.out HA.out);have hml:m.length=l.length:=HP.out.length_eq;have hm9:m.length≤10000:=by omega
 clear hml C;have HR:=Lib.hid HO.out.row;obtain ⟨ao,cap,rfl,hc1,hc2,H3⟩:=HR.out;have HM:=Lib.hid H3;clear H3;obtain ⟨n,hn⟩:∃n,m.length=n:=⟨_,rfl⟩;have HN:=Lib.hid hn;rw [hn] at hc1 hm9 HR HO⊢;clear hn;go_wp2_with fail
 go_loopg [5] n (fun g1 vi wr=>∃k:Nat,vi=.int .i64 ((k:Int)+1)∧n-k≤g1∧Hid (∀j,(h:j+1<m.length)→j<k→m[j].path≠m[j+1].path)∧Below w2.heap.size w2 wr)
 case atStart=>exact ⟨0,by go_num,by omega,fun j _ h=>absurd h (Nat.not_lt_zero _),Below.refl _ _⟩
 case round=>
  obtain ⟨k,rfl,hg,HK,hb2⟩:=hrel;by_cases hlt:k+1<n
  ·have hl1:k+1<m.length:=by rw [HN.out];exact hlt
   obtain ⟨b,off,rfl,hbl,hcell⟩:=HM.out k (by omega);obtain ⟨q0,_,_⟩:=hcell k (by omega);obtain ⟨p0,_,_⟩:=hcell (k+1) hl1;rw [←hb2.cell (p:=⟨b,off+k*3,none⟩) hbl] at q0;rw [←hb2.cell (p:=⟨b,off+(k+1)*3,none⟩) hbl] at p0;have hi1:(k:Int)+1<(n:Int):=by omega
   have hi0:(k:Int)<(n:Int):=by omega
   have e2:((k:Int)+1).toNat=k+1:=by omega
   have p2:(0:Int)≤(k:Int)+1:=by omega
   have HKS:Hid (m[k].path≠m[k+1].path→∀j,(h:j+1<m.length)→j<k+1→m[j].path≠m[j+1].path):=fun hne j h hj=>by
    by_cases e:j=k
    ·subst e;exact hne
    ·exact HK.out j h (by omega)
   have HKB:Hid (m[k].path=m[k+1].path→dupB (isort l)=true):=fun he=>by
    rw [←HD.out.1];exact dupB_iff.2 ⟨k,hl1,he⟩
   clear hcell HK;by_cases hq:m[k+1].path=m[k].path
   ·have HY:Hid (sortT l=(⟨7,none⟩,[])):=by show _=_;unfold sortT;rw [if_pos (HKB.out hq.symm)]
    have ex:wr.cell? ⟨6,0,none⟩=some (sentV E 6):=((HE.out.ext (hb.trans (hb2.mono hb.size))).1.err 6 (by decide));rw [hq] at p0;clear HKS HKB HM HO HR HN hq;generalize m[k].path=pp at q0 p0;have e0:(pp.toList==pp.toList)=true:=beq_self_eq_true _;go_wp2_with fail;go_quiet (fail);go_wp2_with fail;go_quiet (fail);go_wp2_with fail;go_ret2;rw [HY.out];exact TPost.none (IsErr.sent (by decide)) (hb.trans ((hb2.trans (((below_drewN _ wr _).trans (below_drewN _ _ _)).mono hb2.size)).mono hb.size))
   ·have HN2:=Lib.hid (HKS.out (fun e=>hq e.symm));have e0:(m[k+1].path.toList==m[k].path.toList)=false:=beq_eq_false_iff_ne.2 (fun e=>hq (bl_inj (by rw [toList_bl,toList_bl] at e;exact e)));clear HKS HKB hq;generalize m[k].path=pp at q0 p0 e0;generalize m[k+1].path=pp2 at q0 p0 e0;go_wp2_with fail;go_quiet (fail);go_wp2_with fail;go_roundg (n- (k+1))
    case measure=>omega
    case rel=>exact ⟨k+1,by go_num,Nat.le_refl _,HN2,hb2.trans ((below_drewN _ _ _).mono hb2.size)⟩
  ·have hi1:¬(k:Int)+1<(n:Int):=by omega
   have HF:Hid (dupB (isort l)=false):=by
    show _=_;rw [←HD.out.1]
    cases h:dupB m with
    |false=>rfl
    |true=>
     obtain ⟨i,hi,he⟩:=dupB_iff.1 h;exact absurd he (HK.out i hi (by have:=HN.out;omega))
   have HMI:Hid (m=isort l):=HD.out.2 (HD.out.1.trans HF.out);have hb3:=hb.trans (hb2.mono hb.size);have HR3:=Lib.hid (HR.out.ext hb2);have C:=Lib.hid (treeCheck_any _ m wr HR3.out (by have:=HN.out;omega) (fun f hf=>HS.out f (HP.out.mem_iff.1 hf)) (HE.out.ext hb3));have HO3:=Lib.hid (HO.out.ext hb2);clear HK HM HO HR HD HP HA;go_wp2_with fail;refine C.out.mono ?_;rintro e w4 ⟨⟨ev,rfl,HI⟩,hb4⟩;have HO4:=Lib.hid (HO3.out.ext hb4);have hb5:=hb3.trans (hb4.mono hb3.size);have HT:Hid (sortT l=if (treeEr (isort l)).code≠0 then (treeEr (isort l),[]) else (⟨0,none⟩,isort l)):=by show _=_;unfold sortT;rw [if_neg (by rw [HF.out];decide)]
   clear C HR3 HO3 hb3 hb2 hb4;by_cases hz:(treeEr m).code=0
   ·have HZ:Hid (sortT l=(⟨0,none⟩,m)):=by show _=_;rw [HT.out,←HMI.out,if_neg (by rw [hz];decide)]
    have e0:ev=.nilIface:=IsErr.nil_inv (a:=(treeEr m).at?) (by have:=HI.out;rw [show treeEr m=⟨(treeEr m).code,(treeEr m).at?⟩ from rfl,hz] at this;exact this);subst e0;clear HI hz HT HMI HF;go_wp2_with fail;go_ret2;rw [HZ.out];exact ⟨⟨_,_,rfl,.inl ⟨rfl,rfl⟩,HO4⟩,hb5⟩
   ·have HZ:Hid (sortT l=(treeEr m,[])):=by show _=_;rw [HT.out,←HMI.out,if_pos hz]
    obtain ⟨t,x,rfl⟩:=IsErr.some_inv HI.out hz;clear hz HT HMI HF HO4;go_wp2_with fail;go_ret2;rw [HZ.out];exact TPost.none HI hb5
end Go.Proofs.YtaabgmbjmfjdjaaGreatDoor
