import Derived.Test.YtaabgmbjmfjdjaaGreatDoorJPlainly
import Derived.RangeFuncBox
import Derived.RangeFuncNested
import Derived.RangeFuncBound
import Derived.RangeFuncCalls
import Derived.RangeFuncLeaves
import Derived.Shelf.Abstract
import Derived.Shelf.RegionOpen
import Derived.WalkKit
import Derived.OwnWalkIn
import Derived.TacticsInMore
import Derived.LoopNIn
import Derived.LoopIn
import Derived.Maps.AppendAt
import Derived.Sort.QuietIn
import Derived.Test.YtaabgmbjmfjdjaaGreatDoorProg
import Derived.Test.YtaabgmbjmfjdjaaGreatDoorJShelf
import Derived.Test.YtaabgmbjmfjdjaaGreatDoorJRowedEtc
import Derived.Lib.Hide
import Derived.Lib.IndexBytes
import Derived.IntWalk
import Derived.Test.YtaabgmbjmfjdjaaGreatDoorJPathedEtc
namespace Go.Proofs.YtaabgmbjmfjdjaaGreatDoor
open Go Go.RowKit Go.Shelf
set_option maxHeartbeats 2000000
set_option maxRecDepth 100000
def stripE (s:List UInt8) (n:Int):Nat:=if partsE s=0 then (if n<0 then 2 else if ((cutL 47 s).length:Int)≤n then 3 else 0) else partsE s
def stripT (s:List UInt8) (n:Int):List UInt8:=if stripE s n=0 then [47].intercalate ((cutL 47 s).drop n.toNat) else []
theorem okB_slash:okB 47=false:=by decide
theorem part_free {x:List UInt8} (h:partB x=true):(47:UInt8)∉x:=by
 intro hm;have h2:x.all okB=true:=by unfold partB at h;simp only [Bool.and_eq_true] at h;exact h.2
 have:=List.all_eq_true.1 h2 47 hm;rw [okB_slash] at this;cases this
theorem part_ne {x:List UInt8} (h:partB x=true):x≠[]∧x≠[46]∧x≠[46,46]:=by
 unfold partB at h;simp only [Bool.and_eq_true,Bool.not_eq_true',beq_eq_false_iff_ne] at h;exact ⟨h.1.1.1.1,h.1.1.2,h.1.2⟩
theorem cut_parts {w:List (List UInt8)} (hw:w≠[]) (h:w.all partB=true):cutL 47 ([47].intercalate w)=w:=
 cut_join 47 w hw fun x hx=>part_free (List.all_eq_true.1 h x hx)
theorem partsE_join {w:List (List UInt8)} (hw:w≠[]) (h:w.all partB=true) (hl:w.length≤6):partsE ([47].intercalate w)=0:=by
 unfold partsE;rw [cut_parts hw h,if_pos h,if_neg (by omega)]
def headOf (w:List (List UInt8)):List UInt8:=w.flatMap fun x=>x++[47]
theorem head_join:∀(n:Nat) (w:List (List UInt8)),n<w.length→headOf (w.take n)++[47].intercalate (w.drop n)=[47].intercalate w
 |0,w,_=>by simp [headOf]
 |n+1,[],h=>by simp at h
 |n+1,[x],h=>by simp at h
 |n+1,x::y::r,h=>by
  have ih:=head_join n (y::r) (by simpa using h);rw [join_cons,←ih];simp [headOf,List.flatMap_cons]
theorem drop_all {w:List (List UInt8)} (h:w.all partB=true) (n:Nat):(w.drop n).all partB=true:=
 List.all_eq_true.2 fun x hx=>List.all_eq_true.1 h x (List.mem_of_mem_drop hx)
theorem strip_ok_iff {s:List UInt8} {n:Nat} (h:partsE s=0):stripE s n=0↔n<(cutL 47 s).length:=by
 unfold stripE;rw [if_pos h,if_neg (by omega)];split<;>omega
theorem strip_parts {s:List UInt8} {n:Nat} (h:partsE s=0) (hn:n<(cutL 47 s).length):
  stripT s n=[47].intercalate ((cutL 47 s).drop n)∧partsE (stripT s n)=0∧cutL 47 (stripT s n)=(cutL 47 s).drop n:=by
 obtain ⟨h1,h2⟩:=partsE_ok h;have e:stripT s n=[47].intercalate ((cutL 47 s).drop n):=by unfold stripT;rw [if_pos ((strip_ok_iff h).2 hn)];rfl
 have hne:(cutL 47 s).drop n≠[]:=by intro h3;have:=congrArg List.length h3;simp at this;omega
 refine ⟨e,?_,?_⟩
 ·rw [e];exact partsE_join hne (drop_all h1 n) (by rw [List.length_drop];omega)
 ·rw [e];exact cut_parts hne (drop_all h1 n)
theorem strip_head {s:List UInt8} {n:Nat} (h:partsE s=0) (hn:n<(cutL 47 s).length):headOf ((cutL 47 s).take n)++stripT s n=s:=by
 rw [(strip_parts h hn).1,head_join n _ hn,cutL_join]
def cleanW:List (List UInt8)→List (List UInt8)→Nat×List (List UInt8)
 |out,[]=>(if 6<out.length then 8 else 0,out)
 |out,w::r=>
  if w=[]∨w=[46] then cleanW out r
  else if w=[46,46] then (if out=[] then (10,[]) else cleanW out.dropLast r)
  else if partB w then cleanW (out++[w]) r else (5,[])
def cleanE (s:List UInt8):Nat:=if s.head? =some 47 then 3 else (cleanW [] (cutL 47 s)).1
def cleanT (s:List UInt8):List UInt8:=if cleanE s=0 then [47].intercalate (cleanW [] (cutL 47 s)).2 else []
theorem cleanW_le:∀(l out:List (List UInt8)),(cleanW out l).1≤13
 | [],out=>by rw [cleanW];show (if 6<out.length then 8 else 0)≤13;split<;>decide
 |w::r,out=>by
  rw [cleanW];split
  ·exact cleanW_le r _
  ·split
   ·split
    ·decide
    ·exact cleanW_le r _
   ·split
    ·exact cleanW_le r _
    ·decide
theorem cleanE_le (s:List UInt8):cleanE s≤13:=by unfold cleanE;split;decide;exact cleanW_le _ _
theorem all_dropLast {w:List (List UInt8)} (h:w.all partB=true):w.dropLast.all partB=true:=
 List.all_eq_true.2 fun x hx=>List.all_eq_true.1 h x (List.dropLast_subset w hx)
theorem cleanW_parts:∀(l out:List (List UInt8)),out.all partB=true→(cleanW out l).1=0→(cleanW out l).2.all partB=true∧(cleanW out l).2.length≤6
 | [],out,h,h0=>by
  rw [cleanW] at h0⊢;refine ⟨h,?_⟩;simp only at h0;split at h0
  ·cases h0
  ·show out.length≤6;omega
 |w::r,out,h,h0=>by
  rw [cleanW] at h0⊢;split at h0
  ·rename_i c;rw [if_pos c];exact cleanW_parts r out h h0
  ·rename_i c;rw [if_neg c];split at h0
   ·rename_i c2;rw [if_pos c2];split at h0
    ·cases h0
    ·rename_i c3;rw [if_neg c3];exact cleanW_parts r _ (all_dropLast h) h0
   ·rename_i c2;rw [if_neg c2];split at h0
    ·rename_i c3;rw [if_pos c3];exact cleanW_parts r _ (by rw [List.all_append,h];simp [c3]) h0
    ·cases h0
theorem cleanW_keep:∀(l out:List (List UInt8)),l.all partB=true→cleanW out l=(if 6<(out++l).length then 8 else 0,out++l)
 | [],out,_=>by rw [cleanW,List.append_nil]
 |w::r,out,h=>by
  rw [List.all_cons,Bool.and_eq_true] at h;obtain ⟨n1,n2,n3⟩:=part_ne h.1;rw [cleanW,if_neg (by rintro (c|c);exact n1 c;exact n2 c),if_neg n3,if_pos h.1,cleanW_keep r _ h.2,List.append_assoc];rfl
theorem cleanW_below (D:List (List UInt8)):∀(l out:List (List UInt8)),((cleanW out l).1=0∨(cleanW out l).1=8)→(cleanW (D++out) l).2=D++(cleanW out l).2∧(cleanW (D++out) l).1=(if 6<(D++(cleanW out l).2).length then 8 else 0)
 | [],out,_=>by rw [cleanW,cleanW];exact ⟨rfl,rfl⟩
 |w::r,out,h=>by
  rw [cleanW] at h;rw [cleanW,cleanW];split at h
  ·rename_i c;rw [if_pos c,if_pos c];exact cleanW_below D r out h
  ·rename_i c;rw [if_neg c,if_neg c];split at h
   ·rename_i c2;rw [if_pos c2,if_pos c2];split at h
    ·simp at h
    ·rename_i c3;rw [if_neg c3,if_neg (by intro e;exact c3 (List.append_eq_nil_iff.1 e).2)];rw [List.dropLast_append_of_ne_nil c3];exact cleanW_below D r _ h
   ·rename_i c2;rw [if_neg c2,if_neg c2];split at h
    ·rename_i c3;rw [if_pos c3,if_pos c3];rw [List.append_assoc];exact cleanW_below D r _ h
    ·simp at h
theorem cleanE_parts {s:List UInt8} (h:cleanE s=0):s.head?≠some 47∧(cleanW [] (cutL 47 s)).1=0∧(cleanW [] (cutL 47 s)).2.all partB=true∧(cleanW [] (cutL 47 s)).2.length≤6∧cleanT s=[47].intercalate (cleanW [] (cutL 47 s)).2:=by
 have e:cleanT s=[47].intercalate (cleanW [] (cutL 47 s)).2:=by unfold cleanT;rw [if_pos h]
 unfold cleanE at h;split at h
 ·cases h
 ·rename_i h1;obtain ⟨h2,h3⟩:=cleanW_parts _ [] rfl h;exact ⟨h1,h,h2,h3,e⟩
theorem head_of_parts {w:List (List UInt8)} (h:w.all partB=true) (t:List UInt8) (hw:w≠[]):([47].intercalate w++t).head?≠some 47:=by
 cases w with
 |nil=>exact absurd rfl hw
 |cons x r=>
  rw [List.all_cons,Bool.and_eq_true] at h;have hx:=part_ne h.1;have hf:=part_free h.1
  cases x with
  |nil=>exact absurd rfl hx.1
  |cons b x=>
   have hb:b≠47:=fun e=>hf (by simp [e])
   have:([47].intercalate ((b::x)::r)++t).head? =some b:=by
    cases r with
    |nil=>simp [List.intercalate,List.intersperse]
    |cons y r=>rw [join_cons];rfl
   rw [this];intro e;exact hb (Option.some.inj e)
theorem clean_again {s:List UInt8} (h:cleanE s=0):cleanE (cleanT s)=0∧cleanT (cleanT s)=cleanT s∧(cleanT s≠[]→partsE (cleanT s)=0∧cutL 47 (cleanT s)=(cleanW [] (cutL 47 s)).2):=by
 obtain ⟨_,_,h3,h4,h5⟩:=cleanE_parts h;generalize (cleanW [] (cutL 47 s)).2=out at*;rw [h5];by_cases ho:out=[]
 ·subst ho;exact ⟨by decide,by decide,fun h=>absurd rfl h⟩
 ·have hc:=cut_parts ho h3;have e1:cleanE ([47].intercalate out)=0:=by
   unfold cleanE;rw [if_neg (by have:=head_of_parts h3 [] ho;rwa [List.append_nil] at this),hc,cleanW_keep out [] h3];show (if 6<([]++out).length then 8 else 0)=0;rw [if_neg (by simpa using h4)]
  refine ⟨e1,?_,fun _=>⟨partsE_join ho h3 h4,hc⟩⟩;unfold cleanT;rw [if_pos e1,hc,cleanW_keep out [] h3];rfl
def joinS (d s:List UInt8):List UInt8:=if d=[] then s else d++47::s
theorem join_in {d s:List UInt8} (hd:partsE d=0) (hs:cleanE s=0) (hc:cleanT s≠[]):
  (cleanE (joinS d s)=0∨cleanE (joinS d s)=8)∧(cleanE (joinS d s)=0→cleanE (joinS d (cleanT s))=0∧cleanT (joinS d (cleanT s))=cleanT (joinS d s)∧cleanT (joinS d s)=d++47::cleanT s∧partsE (cleanT (joinS d s))=0):=by
 obtain ⟨d1,d2⟩:=partsE_ok hd;obtain ⟨h1,h2,h3,h4,h5⟩:=cleanE_parts hs;have hdne:d≠[]:=by rintro rfl;rw [partsE_nil] at hd;cases hd
 have hcc:=(clean_again hs).2.2 hc;have ej:∀t,joinS d t=d++47::t:=fun t=>by unfold joinS;rw [if_neg hdne]
 have hh:∀t,(d++47::t).head?≠some 47:=fun t=>by
  have:=head_of_parts d1 (47::t) (cutL_ne 47 d);rwa [cutL_join] at this
 have key:∀t,cleanW [] (cutL 47 (d++47::t))=cleanW (cutL 47 d) (cutL 47 t):=fun t=>by
  rw [cutL_app];have aux:∀(l out m:List (List UInt8)),l.all partB=true→cleanW out (l++m)=cleanW (out++l) m:=by
   intro l;induction l with
   |nil=>intro out m _;simp
   |cons x r ih=>
    intro out m hx;rw [List.all_cons,Bool.and_eq_true] at hx;obtain ⟨n1,n2,n3⟩:=part_ne hx.1;rw [List.cons_append,cleanW,if_neg (by rintro (c|c);exact n1 c;exact n2 c),if_neg n3,if_pos hx.1,ih _ _ hx.2,List.append_assoc];rfl
  have:=aux (cutL 47 d) [] (cutL 47 t) d1;rwa [List.nil_append] at this
 have b1:=cleanW_below (cutL 47 d) (cutL 47 s) [] (.inl h2);rw [List.append_nil] at b1;obtain ⟨b2,b3⟩:=b1;have eE:cleanE (joinS d s)=if 6<(cutL 47 d++(cleanW [] (cutL 47 s)).2).length then 8 else 0:=by
  unfold cleanE;rw [ej,if_neg (hh s),key,b3]
 refine ⟨?_,fun h0=>?_⟩
 ·rw [eE];split
  ·exact .inr rfl
  ·exact .inl rfl
 ·have hlen:(cutL 47 d++(cleanW [] (cutL 47 s)).2).length≤6:=by
   rw [eE] at h0;split at h0
   ·cases h0
   ·omega
  generalize hout:(cleanW [] (cutL 47 s)).2=out at*;have hone:out≠[]:=by
   intro e;apply hc;rw [h5,e];rfl
  have hall:(cutL 47 d++out).all partB=true:=by rw [List.all_append,d1,h3];rfl
  have k2:cleanW [] (cutL 47 (d++47::cleanT s))=(0,cutL 47 d++out):=by
   rw [key,hcc.2,cleanW_keep out _ h3,if_neg (by omega)]
  have hd2:d=[47].intercalate (cutL 47 d):=(cutL_join 47 d).symm;have jj:[47].intercalate (cutL 47 d++out)=d++47::cleanT s:=by
   have hh2:[47].intercalate (cutL 47 d++out)=[47].intercalate (cutL 47 (d++47::cleanT s)):=by
    rw [cutL_app,hcc.2]
   rw [hh2,cutL_join]
  have t1:cleanT (joinS d s)=d++47::cleanT s:=by
   unfold cleanT at*;rw [if_pos h0,ej,key,b2,jj]
  have e2:cleanE (joinS d (cleanT s))=0:=by
   unfold cleanE;rw [ej,if_neg (hh _),k2]
  have t2:cleanT (joinS d (cleanT s))=d++47::cleanT s:=by
   show (if cleanE (joinS d (cleanT s))=0 then _ else _)=_;rw [if_pos e2,ej,k2];exact jj
  refine ⟨e2,by rw [t2,t1],t1,?_⟩;rw [t1,←jj];exact partsE_join (by intro e;exact hone (List.append_eq_nil_iff.1 e).2) hall hlen
variable {F:Fence} {n:Nat} {P:Program}
def Calm {β:Type} (B Bs:Nat) (I:β→World→Prop):Prop:=
 ∀s W W' row,I s W→W.grownBy W' row→(∀r,row=some r→r=Bs∨(B≤r∧∃o:Obj,W.heap[r]? =some o∧o.isCells=false))→I s W'
theorem Calm.put {β:Type} {B Bs:Nat} {I:β→World→Prop} (h:Calm B Bs I) {s:β} {W:World} {l:Nat} {o:Obj} (o':Obj) (hs:I s W) (hB:B≤l) (hl:W.heap[l]? =some o) (ho:o.isCells=false):I s (W.putObj l o'):=
 h s W _ (some l) hs (grownBy_putObj' W l o') (fun r e=>by cases e;exact .inr ⟨hB,o,hl,ho⟩)
theorem Calm.alloc {β:Type} {B Bs:Nat} {I:β→World→Prop} (h:Calm B Bs I) {s:β} {W:World} (o:Obj) (hs:I s W):I s (W.alloc o):=
 h s W _ none hs (World.grownBy_alloc W o none) (fun r e=>by cases e)
theorem Calm.set {β:Type} {B Bs:Nat} {I:β→World→Prop} (h:Calm B Bs I) {s:β} {W:World} (v:Value) (hs:I s W):I s (W.setCell ⟨Bs,0,none⟩ v):=
 h s W _ (some Bs) hs (grownBy_setCell' W Bs v) (fun r e=>by cases e;exact .inl rfl)
def Same (lo hi:Nat) (W W':World):Prop:=∀b,lo≤b→b<hi→W'.heap[b]? =W.heap[b]?
theorem Same.refl (lo hi:Nat) (W:World):Same lo hi W W:=fun _ _ _=>rfl
theorem Same.trans {lo hi:Nat} {A B C:World} (h:Same lo hi A B) (k:Same lo hi B C):Same lo hi A C:=fun b h1 h2=>(k b h1 h2).trans (h b h1 h2)
theorem Same.put {lo hi:Nat} {A W:World} (h:Same lo hi A W) {l:Nat} (hl:hi≤l) (o:Obj):Same lo hi A (W.putObj l o):=fun b h1 h2=>(World.putObj_heap_other (by omega)).trans (h b h1 h2)
theorem Same.grown {lo hi:Nat} {W W':World} {row:Option Nat} (hg:W.grownBy W' row) (hhi:hi≤W.heap.size) (hr:∀r,row=some r→r<lo∨hi≤r):Same lo hi W W':=fun b h1 h2=>
 hg.block b (by omega) (fun e=>by have:=hr b e.symm;omega)
def Yields {α:Type} (F:Fence) (n:Nat) (P:Program) (gf:Nat) (lb:Array Value) (encs:α→Array Value) (lo hi Bs N:Nat) (S Sp:List α→Prop) (w:World):Prop:=
 ∀(l:Nat) (J Jx:List α→World→Prop) (W:World),Below w.heap.size w W→Calm W.heap.size Bs J→Calm W.heap.size Bs Jx→
  (∀pre x W1,J pre W1→pre.length<N→YieldAt F (n-1) P l (encs x) W1 fun e W'=>(e=.returned (.bool true)∧J (pre++[x]) W'∧Same lo hi W1 W')∨(e=.returned (.bool false)∧Jx (pre++[x]) W'))→
  J [] W→CallsIn F n P gf (#[.func (.yield l) #[] #[]]++lb) W fun e W'=>(∃v,e=.returned v)∧((∃xs,S xs∧J xs W')∨(∃pre,Sp pre∧Jx pre W'))
def roundEnd {α:Type} (B lo hi:Nat) (I Ix:List α→World→Prop) (xs:List α) (W:World):Exit→Act→World→Prop
 |.normal,_,W'=>KeepsFrom B W W'∧Same lo hi W W'∧I xs W'
 |.ret,_,W'=>KeepsFrom B W W'∧Ix xs W'
 |_,_,_=>False
theorem range_calm {α:Type} {g:Operand} {ps:Array Tmp} {assign body:Code} {Q:Exit→Act→World→Prop} {a:Act} {w:World}
  (hro:F.round=none) (h1:1≤n) {gf:Nat} {lb:Array Value} (hg:a.eval g=.func (.func gf) #[] lb) (hFg:F.fn gf) (eg:∀args w,(callFunc gf args).run P w=.ok (.enter gf args) w)
  {encs:α→Array Value} {lo hi Bs N:Nat} {S Sp:List α→Prop} (hhi:hi≤w.heap.size) (hBs:Bs<w.heap.size) (hseq:Yields F (n-1) P gf lb encs lo hi Bs N S Sp w) (hps:∀x,(encs x).size=ps.size)
  (I Ix:List α→World→Prop) (hI:Calm w.heap.size Bs I) (hIx:Calm w.heap.size Bs Ix) (h0:I [] w) (a₁:α→Act)
  (hassign:∀(l:Nat) (x:α) (W:World) (K:Act→World→Prop),K (a₁ x) W→
   assign.wpIn (F.inRound l) (n-1-1) P (Exit.then K (fun _ _ _=>False)) {tmps:=(ps.zip (encs x)).foldl (fun t (p,v)=>t.setIfInBounds p v) a.tmps,defers:=[]} W)
  (hbody:∀(l:Nat) (pre:List α) (x:α) (W:World),I pre W→pre.length<N→body.wpIn (F.inRound l) (n-1-1) P (roundEnd w.heap.size lo hi I Ix (pre++[x]) W) (a₁ x) W)
  (hdone:∀(D:Nat) (xs:List α) (W:World),w.heap.size≤D→S xs→I xs W→W.heap[D]? =some (.deferred (some []))→Q .normal {a with defers:={target:= .collected D,args:=#[]}::a.defers} W)
  (hstop:∀(D:Nat) (pre:List α) (W:World),w.heap.size≤D→Sp pre→Ix pre W→W.heap[D]? =some (.deferred (some []))→Code.ret.wpIn F n P Q {a with defers:={target:= .collected D,args:=#[]}::a.defers} W):
  (Code.rangeFunc g ps assign body).wpIn F n P Q a w:=by
 refine wpIn_rangeFunc fun fn hfn=>?_
 rw [hro]
 let D:=w.heap.size
 let l:=w.heap.size+1
 let rc:LoopState→Option Code→Loop:=fun st pe=>{state:=st,pending:=pe,fn,tmps:=a.tmps,params:=ps,assign,body,defers:=w.heap.size}
 let W1:=(w.alloc (.deferred (some []))).alloc (.loop (rc .ready none))
 have hl1:W1.heap[l]? =some (.loop (rc .ready none)):=by
  have:=World.alloc_heap_new (w.alloc (.deferred (some []))) (.loop (rc .ready none));rwa [World.size_alloc] at this
 have hd1:W1.heap[D]? =some (.deferred (some [])):=(Below.heap_alloc _ _ _ (by simp [D])).trans (World.alloc_heap_new w _);have hb1:Below w.heap.size w W1:=((Below.refl _ w).alloc (Nat.le_refl _) _).alloc (by simp) _;have hs1:W1.heap.size=w.heap.size+2:=by simp [W1]
 have hi1:I [] W1:=hI.alloc _ (hI.alloc _ h0);refine ⟨l,[{target:= .collected D,args:=#[]}],W1,{target:= .fn (.func gf) lb,args:=#[.func (.yield l) #[] #[]]},W1,gf,#[.func (.yield l) #[] #[]]++lb,W1,
  run_enterLoop_outer _ _ _ _ _,?_,?_,?_,fun _=>h1,?_⟩
 ·simp only [resolve,hg];simp [go_sem]
 ·intro f' hf';simp [Target.leads] at hf';subst hf';exact hFg
 ·simp [invoke,go_sem,eg]
 have keepRow:∀{A B:World} {row:Option Nat} {k:Nat} {o:Obj},A.grownBy B row→(∀r,row=some r→r=Bs∨(W1.heap.size≤r∧∃o:Obj,A.heap[r]? =some o∧o.isCells=false))→k<W1.heap.size→k≠Bs→A.heap[k]? =some o→B.heap[k]? =some o:=by
  intro A B row k o hgr hr hk hne ho;refine (hgr.block k (Array.getElem?_eq_some_iff.1 ho).1 (fun e=>?_)).trans ho;rcases hr k e.symm with h|⟨h,_⟩
  ·exact hne h
  ·omega
 have weaken:∀{A:World} {row:Option Nat},(∀r,row=some r→r=Bs∨(W1.heap.size≤r∧∃o:Obj,A.heap[r]? =some o∧o.isCells=false))→(∀r,row=some r→r=Bs∨(w.heap.size≤r∧∃o:Obj,A.heap[r]? =some o∧o.isCells=false)):=
  fun h r e=>(h r e).imp id (fun ⟨x,y⟩=>⟨by omega,y⟩)
 refine (hseq l (fun pre W=>I pre W∧W.heap[l]? =some (.loop (rc .ready none))∧W.heap[D]? =some (.deferred (some [])))
  (fun pre W=>Ix pre W∧W.heap[l]? =some (.loop (rc .done (some .ret)))∧W.heap[D]? =some (.deferred (some []))) W1 hb1
  (fun s A B row hs hgr hr=>⟨hI s A B row hs.1 hgr (weaken hr),keepRow hgr hr (by omega) (by omega) hs.2.1,keepRow hgr hr (by omega) (by omega) hs.2.2⟩)
  (fun s A B row hs hgr hr=>⟨hIx s A B row hs.1 hgr (weaken hr),keepRow hgr hr (by omega) (by omega) hs.2.1,keepRow hgr hr (by omega) (by omega) hs.2.2⟩) ?_ ⟨hi1,hl1,hd1⟩).mono ?_
 ·rintro pre x W ⟨hJ,hl,hd⟩ hN;have hlt:l<W.heap.size:=(Array.getElem?_eq_some_iff.1 hl).1;refine ⟨fn,_,assign,body,run_yield (P:=P) (args:=encs x) hl (hps x),roundIn_of_wpIn hfn (hassign _ x W _ ⟨_,run_beginRound hl rfl,?_⟩)⟩;have hl2:(W.putObj l (.loop (rc .busy none))).heap[l]? =some (.loop (rc .busy none)):=World.putObj_heap_same hlt;have hd2:(W.putObj l (.loop (rc .busy none))).heap[D]? =some (.deferred (some [])):=(World.putObj_heap_other (by omega)).trans hd;refine wpIn_mono (hbody l pre x _ (hI.put _ hJ (by omega) hl rfl) hN) ?_;rintro e a3 W3 hp
  match e,hp with
  |.normal,⟨hk,hsm,hi3⟩=>
   have hl3:=hk.same _ _ (by omega) hl2 rfl;have hd3:=hk.same _ _ (by omega) hd2 rfl;exact ⟨_,_,run_endRound none hl3,.inl ⟨rfl,⟨hI.put _ hi3 (by omega) hl3 rfl,World.putObj_heap_same (Array.getElem?_eq_some_iff.1 hl3).1,(World.putObj_heap_other (by omega)).trans hd3⟩,
    (((Same.refl lo hi W).put (by omega) _).trans hsm).put (by omega) _⟩⟩
  |.ret,⟨hk,hi3⟩=>
   have hl3:=hk.same _ _ (by omega) hl2 rfl;have hd3:=hk.same _ _ (by omega) hd2 rfl;exact ⟨_,_,run_endRound (some .ret) hl3,.inr ⟨rfl,hIx.put _ hi3 (by omega) hl3 rfl,World.putObj_heap_same (Array.getElem?_eq_some_iff.1 hl3).1,(World.putObj_heap_other (by omega)).trans hd3⟩⟩
 ·rintro e W2 ⟨⟨v,rfl⟩,(⟨xs,hS,hi,hl,hd⟩|⟨pre,hSp,hi,hl,hd⟩)⟩
  ·exact ⟨none,_,run_endLoop hl (by simp [rc]),hdone D xs _ (Nat.le_refl _) hS (hI.put _ hi (by omega) hl rfl) ((World.putObj_heap_other (by omega)).trans hd)⟩
  ·exact ⟨some .ret,_,run_endLoop hl (by simp [rc]),hstop D pre _ (Nat.le_refl _) hSp (hIx.put _ hi (by omega) hl rfl) ((World.putObj_heap_other (by omega)).trans hd)⟩
attribute [local go_sem] Oper.semAt_some
abbrev Piece:={x:ByteArray//x.size≤1000000}
def strs (l:List Piece):List (List UInt8):=l.map fun x=>bl x.1
theorem strs_snoc (l:List Piece) (x:Piece):strs (l++[x])=strs l++[bl x.1]:=by simp [strs]
theorem ib_none {c:UInt8} {t:ByteArray} (h:Lib.indexByte t.data.toList c= -1):c∉bl t:=index_byte_none ((Lib.index_one (bl t) c).trans h)
theorem ib_hit {c:UInt8} {t:ByteArray} {i:Nat} (h:Lib.indexByte t.data.toList c=i):c∉(bl t).take i∧i<t.size∧bl t=(bl t).take i++c::(bl t).drop (i+1):=by
 have:=index_byte_hit ((Lib.index_one (bl t) c).trans h);rwa [bl_length] at this
theorem blEx (s:ByteArray) (i j:Nat):bl (s.extract i j)=((bl s).drop i).take (j-i):=by
 show (s.extract i j).data.toList=_;rw [ByteArray.data_extract,Array.toList_extract,List.extract_eq_take_drop];rfl
def cellSize (w:World) (b:Nat):Nat:=match w.cell? ⟨b,0,none⟩ with
 |some (.string r)=>r.size
 |_=>0
theorem splitOne_in (l Bs B:Nat) (s:ByteArray) (c:UInt8) (hs:s.size≤1000000) (m:Nat) (J Jx:List Piece→World→Prop) (hJ:Calm B Bs J) (W:World)
  (hY:∀pre (x:Piece) W1,J pre W1→pre.length<1000001→YieldAt Fence.wide (m-1) Tryz.prog l #[.string x.1] W1 fun e W'=>(e=.returned (.bool true)∧J (pre++[x]) W'∧Same Bs (Bs+3) W1 W')∨(e=.returned (.bool false)∧Jx (pre++[x]) W'))
  (k1:Boxed W Bs 9 (.string s)) (k2:Boxed W (Bs+1) 9 (.string ⟨#[c]⟩)) (k3:Boxed W (Bs+2) 3 (.int .i64 0)) (h0:J [] W):
  CallsIn Fence.wide m Tryz.prog 213 #[.func (.yield l) #[] #[],.pointer (some ⟨Bs+1,0,none⟩),.pointer (some ⟨Bs,0,none⟩),.pointer (some ⟨Bs+2,0,none⟩)] W fun e W'=>
   (∃v,e=.returned v)∧((∃xs,strs xs=cutL c (bl s)∧J xs W')∨(∃pre,(∃rest,strs pre++rest=cutL c (bl s))∧Jx pre W')):=by
 refine callsIn_of_wp Tryz.func213 rfl trivial ?_ rfl;simp only [Tryz.ntmps213,List.size_toArray,List.length_cons,List.length_nil,Nat.reduceAdd,Nat.reduceSub,Array.replicate_succ,Array.replicate_zero,List.push_toArray,List.append_toArray,List.nil_append,List.cons_append];have q1:=k1.cell;have q2:=k2.cell;have q3:=k3.cell
 gi_wp2
 gi_loopw [7,8] (fun _ _ wr=>∃(pre:List Piece) (t:ByteArray),pre.length+t.size≤s.size∧J pre wr∧Boxed wr Bs 9 (.string t)∧Boxed wr (Bs+1) 9 (.string ⟨#[c]⟩)∧Boxed wr (Bs+2) 3 (.int .i64 0)∧Hid (cutL c (bl s)=strs pre++cutL c (bl t)))
  (fun _ _ wr=>cellSize wr Bs)
 case atStart=>exact ⟨[],s,by simp,h0,k1,k2,k3,rfl⟩
 case round=>
  obtain ⟨pre,t,ht,hJ1,b1,b2,b3,HC⟩:=hrel;clear q1 q2 q3;have c1:=b1.cell;have c2:=b2.cell;have c3:=b3.cell;have f1:=b1.frozen;by_cases hn:Lib.indexByte t.data.toList c= -1
  ·obtain ⟨fn,tmps,assign,body,hy,hR⟩:=hY pre ⟨t,by omega⟩ wr hJ1 (by omega);dsimp only at hy;have HZ:Hid (strs (pre++[⟨t,by omega⟩])=cutL c (bl s)):=by
    show _=_;rw [strs_snoc,HC.out,cutL_no (ib_none hn)]
   have HN:=Lib.hid hn;clear HC hn
   gi_wp2_with (refine ⟨trivial,fun h=>absurd h (by decide),?_⟩;gi_at_call 64;refine (callsIn_wide.2 (Tryz.strings_Index_one t c _)).mono ?_;rintro e w' ⟨rfl,rfl⟩;rw [HN.out])
   refine ⟨fun h=>absurd h (by decide),hR.mono ?_⟩;rintro e W3 (⟨rfl,hJ3,hk3⟩|⟨rfl,hJx3⟩)
   ·gi_wp2
    go_end0
    exact ⟨⟨_,rfl⟩,.inl ⟨_,HZ.out,hJ3⟩⟩
   ·gi_wp2
    go_end0
    exact ⟨⟨_,rfl⟩,.inr ⟨_,⟨[],by rw [HZ.out,List.append_nil]⟩,hJx3⟩⟩
  ·have hge:=Lib.indexByte_ge t.data.toList c;obtain ⟨i,hi⟩:∃i:Nat,Lib.indexByte t.data.toList c=i:=⟨(Lib.indexByte t.data.toList c).toNat,by omega⟩;obtain ⟨g1,g2,g3⟩:=ib_hit hi;have sl1:=slice_to t (i:Int) i (by omega) rfl;have sl2:=slice_from t ((i:Int)+1) (i+1) (by omega) (by omega);have z1:(t.extract 0 i).size≤1000000:=by rw [ByteArray.size_extract];omega
   have z2:(t.extract (i+1) t.size).size<t.size:=by rw [ByteArray.size_extract];omega
   obtain ⟨fn,tmps,assign,body,hy,hR⟩:=hY pre ⟨t.extract 0 i,z1⟩ wr hJ1 (by omega);dsimp only at hy;have HC2:Hid (cutL c (bl s)=strs (pre++[⟨t.extract 0 i,z1⟩])++cutL c (bl (t.extract (i+1) t.size))):=by
    show _=_;have e1:bl (t.extract 0 i)=(bl t).take i:=by rw [blEx];simp
    have e2:bl (t.extract (i+1) t.size)=(bl t).drop (i+1):=by rw [blEx,List.take_of_length_le (by rw [List.length_drop,bl_length];omega)]
    rw [strs_snoc,e1,e2,HC.out]
    conv=>lhs;rw [g3]
    rw [cutL_app,cutL_no g1,List.append_assoc]
   have HN:=Lib.hid hi;clear HC hi hn hge g1 g3
   gi_wp2_with (refine ⟨trivial,fun h=>absurd h (by decide),?_⟩;gi_at_call 64;refine (callsIn_wide.2 (Tryz.strings_Index_one t c _)).mono ?_;rintro e w' ⟨rfl,rfl⟩;rw [HN.out])
   refine ⟨fun h=>absurd h (by decide),hR.mono ?_⟩;rintro e W3 (⟨rfl,hJ3,hk3⟩|⟨rfl,hJx3⟩)
   ·have d1:Boxed W3 Bs 9 (.string t):=(hk3 Bs (by omega) (by omega)).trans b1;have d2:Boxed W3 (Bs+1) 9 (.string ⟨#[c]⟩):=(hk3 (Bs+1) (by omega) (by omega)).trans b2;have d3:Boxed W3 (Bs+2) 3 (.int .i64 0):=(hk3 (Bs+2) (by omega) (by omega)).trans b3;clear c1 c2 c3 f1;have c1:=d1.cell;have c2:=d2.cell;have c3:=d3.cell;have f1:=d1.frozen
    gi_wp2
    go_roundw
    case rel=>exact ⟨_,t.extract (i+1) t.size,by rw [List.length_append,List.length_singleton];omega,hJ.set _ hJ3,d1.set _,d2.kept (grownBy_setCell' _ _ _) (by simp),d3.kept (grownBy_setCell' _ _ _) (by simp),HC2⟩
    case measure=>
     unfold cellSize;rw [b1.cell,(d1.set _).cell];exact z2
   ·gi_wp2
    refine bodyPost_ret (results_none rfl _ _ _) rfl ?_;exact ⟨⟨_,rfl⟩,.inr ⟨_,⟨_,HC2.out.symm⟩,hJx3⟩⟩
attribute [local go_sem] Oper.semAt_some
structure CEnv (E:Nat→Addr) (w:World):Prop where
 path:PEnv E w
 shape:w.cell? ⟨1,0,none⟩=some (sentV E 2)
 out:w.cell? ⟨9,0,none⟩=some (sentV E 9)
theorem CEnv.ext {E:Nat→Addr} {w w':World} (h:CEnv E w) (hb:Below w.heap.size w w'):CEnv E w':=
 ⟨h.path.ext hb,by rw [hb.cell (p:=⟨1,0,none⟩) (lt_of_cell h.shape)];exact h.shape,by rw [hb.cell (p:=⟨9,0,none⟩) (lt_of_cell h.out)];exact h.out⟩
theorem splitSeqOf_any (s:ByteArray) (c:UInt8) (w:World):Calls Tryz.prog 178 #[.string s,.string ⟨#[c]⟩,.int .i64 0] w fun e w'=>
  e=.returned (.func (.func 213) #[] #[.pointer (some ⟨w.heap.size+1,0,none⟩),.pointer (some ⟨w.heap.size,0,none⟩),.pointer (some ⟨w.heap.size+2,0,none⟩)])∧
  w'=((w.alloc (.cells #[.string s] 9)).alloc (.cells #[.string ⟨#[c]⟩] 9)).alloc (.cells #[.int .i64 0] 3):=by
 go_enter Tryz.func178,Tryz.ntmps178;go_wp2_with fail;go_ret;exact ⟨rfl,rfl⟩
theorem splitSeqTop_any (s:ByteArray) (c:UInt8) (w:World):Calls Tryz.prog 134 #[.string s,.string ⟨#[c]⟩] w fun e w'=>
  e=.returned (.func (.func 213) #[] #[.pointer (some ⟨w.heap.size+1,0,none⟩),.pointer (some ⟨w.heap.size,0,none⟩),.pointer (some ⟨w.heap.size+2,0,none⟩)])∧
  w'=((w.alloc (.cells #[.string s] 9)).alloc (.cells #[.string ⟨#[c]⟩] 9)).alloc (.cells #[.int .i64 0] 3):=by
 go_enter Tryz.func134,Tryz.ntmps134;go_wp2_with fail;refine (splitSeqOf_any s c w).mono ?_;rintro e w' ⟨rfl,rfl⟩;go_wp2_with fail;go_ret;exact ⟨rfl,rfl⟩
def CleanPost (E:Nat→Addr) (s:ByteArray) (w:World) (e:Ending) (w':World):Prop:=
 (∃x:ByteArray,e=.returned (.tuple #[.string x,errV E (cleanE (bl s))])∧Hid (bl x=cleanT (bl s)))∧Below w.heap.size w w'
theorem row_mono {w:World} {base base':Nat} {e:TypeId} {size:Nat} {v:Value} {n:Nat} {xs:List Value} (h:w.ownsRow base e size v n xs) (hb:base'≤base):w.ownsRow base' e size v n xs:=by
 obtain ⟨h1,h2|⟨g,cap,cur,h3,h4,h5⟩⟩:=h
 ·exact ⟨h1,.inl h2⟩
 ·exact ⟨h1,.inr ⟨g,cap,cur,h3,Nat.le_trans hb h4,h5⟩⟩
theorem row_form {w:World} {base:Nat} {e:TypeId} {size:Nat} {v:Value} {n:Nat} {xs:List Value} (h:w.ownsRow base e size v n xs):∃a cap,v=.slice a n cap:=by
 obtain ⟨h1,⟨rfl,rfl⟩|⟨g,cap,cur,h3,_⟩⟩:=h
 ·exact ⟨_,_,rfl⟩
 ·exact ⟨_,_,h3⟩
theorem row_pop {w:World} {base:Nat} {e:TypeId} {g n cap:Nat} {xs:List Value} (h:w.ownsRow base e 1 (.slice (some ⟨g,0,none⟩) (n+1) cap) (n+1) xs):w.ownsRow base e 1 (.slice (some ⟨g,0,none⟩) n cap) n xs.dropLast:=by
 obtain ⟨h1,h2⟩:=h;rcases h2 with ⟨h3,h4⟩|⟨g',cap',cur,h3,h4,h5,h6,h7,h8,h9⟩
 ·omega
 ·obtain ⟨rfl,rfl⟩:g=g'∧cap=cap':=by simpa using h3
  refine ⟨by simp [h1],.inr ⟨g,cap,cur,rfl,h4,h5,by omega,h7,h8,?_⟩⟩;rw [←h9,List.dropLast_eq_take,List.take_take,List.length_take,Array.length_toList,h8];congr 1;omega
theorem box_appended {W w1:World} {n₀ b0 B:Nat} {t e:TypeId} {v v':Value} {k m:Nat} {xs ys:List Value} {tmp:Obj}
  (hv:Boxed W B t v) (hte:t≠e) (hrow:W.ownsRow b0 e 1 v k xs) (h1:n₀≤B) (h2:n₀≤b0) (h3:n₀≤W.heap.size)
  (hown':w1.ownsRow b0 e 1 v' m ys) (hgrow:(W.alloc tmp).grownBy w1 v.ownBlock):
  Boxed w1 B t v∧Boxed (w1.setCell ⟨B,0,none⟩ v') B t v'∧(w1.setCell ⟨B,0,none⟩ v').ownsRow b0 e 1 v' m ys∧KeepsOthers W (w1.setCell ⟨B,0,none⟩ v')∧Below n₀ W (w1.setCell ⟨B,0,none⟩ v'):=by
 obtain ⟨r1,r2,r3,r4,r5⟩:=Boxed.appended hv hte (row_mono hrow h2) h3 h1 (row_mono hown' h2) hgrow;exact ⟨r1,r2,hown'.kept (grownBy_setCell' w1 B v') (.inr (r1.not_row hte hown').symm),r4,r5⟩
theorem grown_of {W W':World} (hb:Below W.heap.size W W'):W.grownBy W' none:=⟨hb.os,hb.tape,hb.output,hb.size,fun k hk _=>hb.block k hk⟩
theorem boxExt {W W':World} {b:Nat} {t:TypeId} {v:Value} (h:Boxed W b t v) (hb:Below W.heap.size W W'):Boxed W' b t v:=h.kept (grown_of hb) (by simp)
theorem rowExt {W W':World} {base:Nat} {e:TypeId} {size:Nat} {v:Value} {n:Nat} {xs:List Value} (h:W.ownsRow base e size v n xs) (hb:Below W.heap.size W W'):W'.ownsRow base e size v n xs:=by
 refine h.kept (grown_of hb) ?_
 cases hv:v.ownBlock with
 |none=>exact .inl rfl
 |some g=>exact .inr (by simp)
theorem Tryz.infoS:(Tryz.prog.info? 9).map (fun i=>(i.zero,i.size,i.bytes))=some (some (.string ⟨#[]⟩),1,16):=by kernel_rfl
theorem addr_add (g j:Nat):(⟨g,0,none⟩:Addr).add j=⟨g,0+j,none⟩:=by
 cases j<;>simp [Addr.add]
theorem join_len:∀l:List ByteArray,(∀z∈l,z.size≤1000000)→([47].intercalate (l.map bl):List UInt8).length≤l.length*1000001
 | [],_=>by simp [List.intercalate]
 | [x],h=>by have hx:=h x (by simp);simp [List.intercalate,bl_length];omega
 |x::y::r,h=>by
  have hx:=h x (by simp);have hr:=join_len (y::r) fun z hz=>h z (List.mem_cons_of_mem _ hz)
  rw [List.map_cons,List.map_cons,join_cons,List.length_append,List.length_cons,bl_length,←List.map_cons];simp only [List.length_cons] at hr⊢;omega
theorem join_any {W:World} {base:Nat} {a:Option Addr} {cap:Nat} {out:List ByteArray} (hr:W.ownsRow base 9 1 (.slice a out.length cap) out.length (out.map Value.string)) (hn:out.length≤6) (hz:∀z∈out,z.size≤1000000):
  Calls Tryz.prog 34 #[.slice a out.length cap,.string ⟨#[47]⟩] W fun e w'=>(∃x:ByteArray,e=.returned (.string x)∧Hid (bl x=[47].intercalate (out.map bl)))∧Below W.heap.size W w':=by
 obtain ⟨h1,⟨h2,h3⟩|⟨g,cap',cur,h3,h4,h5,h6,h7,h8,h9⟩⟩:=id hr
 ·obtain ⟨rfl,_,rfl⟩:a=none∧out.length=0∧cap=0:=by simpa using h2
  have e0:out=[]:=List.eq_nil_of_length_eq_zero h3;subst e0;refine (Tryz.strings_Join_none none 0 ⟨#[47]⟩ W).mono ?_;rintro e w' ⟨rfl,rfl⟩;exact ⟨⟨_,rfl,rfl⟩,Below.refl _ _⟩
 ·obtain ⟨rfl,rfl⟩:a=some ⟨g,0,none⟩∧cap=cap':=by simpa using h3
  have hlen:(Lib.join (out.map (·.data.toList)) (⟨#[47]⟩:ByteArray).data.toList).length≤140737488355328:=by
   have:=join_len out hz;show ([47].intercalate (out.map bl):List UInt8).length≤_;omega
  refine (Tryz.strings_Join g 0 cap out ⟨#[47]⟩ W ?_ (Array.getElem?_eq_some_iff.1 h5).1 (by omega) h6 hlen).mono ?_
  ·intro j x hx;have:=hr.cells (g:=g) rfl j (.string x) (by rw [List.getElem?_map,hx];rfl);rwa [addr_add] at this
  ·rintro e w' ⟨rfl,hb⟩;exact ⟨⟨_,rfl,by show [47].intercalate (out.map (·.data.toList))=_;rfl⟩,hb⟩
def Kept (w:World) (h:Nat) (pre:List Piece) (W:World):Prop:=
 ∃(v:Value) (out:List ByteArray),Boxed W (h+2) 22 v∧W.ownsRow (h+6) 9 1 v out.length (out.map Value.string)∧out.length≤pre.length∧Hid (∀z∈out,z.size≤1000000)∧
  Hid (∀rest,cleanW [] (strs pre++rest)=cleanW (out.map bl) rest)∧Boxed W h 9 (.string ⟨#[]⟩)∧Boxed W (h+1) 27 .nilIface∧Below h w W∧h+6≤W.heap.size
def Left (E:Nat→Addr) (w:World) (h:Nat) (pre:List Piece) (W:World):Prop:=
 ∃k:Nat,Boxed W h 9 (.string ⟨#[]⟩)∧Boxed W (h+1) 27 (sentV E k)∧Hid (∀rest,(cleanW [] (strs pre++rest)).1=k+1)∧Below h w W
theorem boxed_calm {X Y:World} {row:Option Nat} {B Bs b:Nat} {t:TypeId} {v:Value} (h:Boxed X b t v) (hg:X.grownBy Y row) (hr:∀r,row=some r→r=Bs∨(B≤r∧∃o:Obj,X.heap[r]? =some o∧o.isCells=false)) (h1:b≠Bs) (h2:b<B):Boxed Y b t v:=
 h.kept hg (fun e=>by rcases hr b e.symm with h|⟨h,_⟩<;>omega)
theorem below_calm {w X Y:World} {row:Option Nat} {B Bs n:Nat} (h:Below n w X) (hg:X.grownBy Y row) (hr:∀r,row=some r→r=Bs∨(B≤r∧∃o:Obj,X.heap[r]? =some o∧o.isCells=false)) (h1:n≤Bs) (h2:n≤B) (h3:n≤X.heap.size):Below n w Y:=
 h.grown hg h3 (fun k e=>by rcases hr k e with h|⟨h,_⟩<;>omega)
theorem kept_calm (w:World) (h:Nat):Calm (h+6) (h+3) (Kept w h):=by
 rintro s X Y row ⟨v,out,hv,hr,hl,hz,HI,b1,b2,hB,hs⟩ hg hrow;refine ⟨v,out,boxed_calm hv hg hrow (by omega) (by omega),hr.kept hg ?_,hl,hz,HI,boxed_calm b1 hg hrow (by omega) (by omega),boxed_calm b2 hg hrow (by omega) (by omega),below_calm hB hg hrow (by omega) (by omega) (by omega),Nat.le_trans hs hg.size⟩;rcases hr.2 with ⟨rfl,_⟩|⟨g,cap,cur,rfl,hgb,hgc,_⟩
 ·exact .inl rfl
 ·refine .inr fun e'=>?_
  rcases hrow g (by simpa [Value.ownBlock] using e'.symm) with h|⟨_,o,ho,hc⟩
  ·omega
  ·rw [hgc] at ho;cases ho;cases hc
theorem left_calm (E:Nat→Addr) (w:World) (h:Nat):Calm (h+6) (h+3) (fun pre W=>Left E w h pre W∧h+6≤W.heap.size):=by
 rintro s X Y row ⟨⟨k,b1,b2,HK,hB⟩,hs⟩ hg hrow;exact ⟨⟨k,boxed_calm b1 hg hrow (by omega) (by omega),boxed_calm b2 hg hrow (by omega) (by omega),HK,below_calm hB hg hrow (by omega) (by omega) (by omega)⟩,Nat.le_trans hs hg.size⟩
theorem splitYields (w0:World) (Bs:Nat) (s:ByteArray) (c:UInt8) (hs:s.size≤1000000) (m:Nat)
  (k1:Boxed w0 Bs 9 (.string s)) (k2:Boxed w0 (Bs+1) 9 (.string ⟨#[c]⟩)) (k3:Boxed w0 (Bs+2) 3 (.int .i64 0)):
  Yields Fence.wide m Tryz.prog 213 #[.pointer (some ⟨Bs+1,0,none⟩),.pointer (some ⟨Bs,0,none⟩),.pointer (some ⟨Bs+2,0,none⟩)] (fun x:Piece=>#[Value.string x.1]) Bs (Bs+3) Bs 1000001
   (fun xs=>strs xs=cutL c (bl s)) (fun pre=>∃rest,strs pre++rest=cutL c (bl s)) w0:=by
 intro l J Jx W hb hJ hJx hY h0;have e:∀b,b<w0.heap.size→W.heap[b]? =w0.heap[b]?:=fun b h=>hb.block b h
 exact splitOne_in l Bs _ s c hs m J Jx hJ W hY ((e _ k1.lt).trans k1) ((e _ k2.lt).trans k2) ((e _ k3.lt).trans k3) h0
end Go.Proofs.YtaabgmbjmfjdjaaGreatDoor
