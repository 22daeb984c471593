import Derived.Test.YtaabgmbjmfjdjaaGreatDoorJStrMapEtc
import Derived.MapKept
import Derived.Shelf.Abstract
import Derived.Test.YtaabgmbjmfjdjaaGreatDoorJShopLoadEtc
import Derived.Test.YtaabgmbjmfjdjaaGreatDoorJScNumEtc
import Derived.Test.YtaabgmbjmfjdjaaGreatDoorJPressLongEtc
import Derived.Deep.RegionHeld3
import Derived.Test.YtaabgmbjmfjdjaaGreatDoorJShopWantsEtc
import Derived.Test.YtaabgmbjmfjdjaaGreatDoorJStepSrcEtc
namespace Go.Proofs.YtaabgmbjmfjdjaaGreatDoor
open Go Go.RowKit Go.Maps
set_option maxHeartbeats 4000000
set_option maxRecDepth 100000
def cmdL:List (ByteArray×Nat×Nat):=[(⟨#[115,101,114,118,101]⟩,2,36),(⟨#[112,97,99,107]⟩,2,37),(⟨#[112,114,101,115,115]⟩,2,38),(⟨#[111,102,102]⟩,1,39),(⟨#[111,110]⟩,1,40),(⟨#[99,117,116]⟩,2,41),(⟨#[99,97,108,108,115]⟩,0,42),(⟨#[115,117,109]⟩,1,43),(⟨#[119,97,110,116]⟩,5,44),(⟨#[117,110,119,97,110,116]⟩,1,45),(⟨#[102,101,116,99,104]⟩,1,46),(⟨#[104,101,108,100]⟩,0,47),(⟨#[100,114,111,112]⟩,1,48),(⟨#[108,111,99,107]⟩,0,49),(⟨#[107,101,101,112]⟩,0,50),(⟨#[108,111,97,100]⟩,0,51),(⟨#[102,97,105,108]⟩,1,52),(⟨#[97,103,97,105,110]⟩,0,53),(⟨#[99,108,101,97,110]⟩,1,54)]
abbrev cmdV (n f:Nat):Value:= .agg #[.int .i64 n,.func (.func f) #[] #[]]
def cmdE:Nat→List (ByteArray×Nat×Nat)→List MapEntry
 |_,[]=>[]
 |i,x::l=>⟨.string x.1,cmdV x.2.1 x.2.2,i⟩::cmdE (i+1) l
def CMap (w0:World) (g n:Nat) (W:World):Prop:=W.heap[g]? =some (.map (cmdE 0 (cmdL.take n)).toArray n)∧w0.heap.size≤g∧Below w0.heap.size w0 W
theorem CMap.alloc {w0 W:World} {g n:Nat} (h:CMap w0 g n W) (o:Obj):CMap w0 g n (W.alloc o):=⟨by rw [Below.heap_alloc _ _ _ (Array.getElem?_eq_some_iff.1 h.1).1];exact h.1,h.2.1,h.2.2.alloc h.2.2.size _⟩
theorem cmdE_key:∀(l:List (ByteArray×Nat×Nat)) (i:Nat),∀x∈cmdE i l,MapKept.IsKey .string x.key
 | [],_,_,h=>by cases h
 |y::l,i,x,h=>by
  rcases List.mem_cons.1 h with rfl|h
  ·trivial
  ·exact cmdE_key l _ x h
theorem cmdE_at:∀(l:List (ByteArray×Nat×Nat)) (i j:Nat) (e:MapEntry),(cmdE i l)[j]? =some e→∃x∈l,e.key=.string x.1∧e.val=cmdV x.2.1 x.2.2
 | [],_,_,_,h=>by cases h
 |y::l,i,0,e,h=>by cases h;exact ⟨y,List.mem_cons_self ..,rfl,rfl⟩
 |y::l,i,j+1,e,h=>by
  obtain ⟨x,hx,h⟩:=cmdE_at l _ j e h;exact ⟨x,List.mem_cons_of_mem _ hx,h⟩
theorem cmdE_all:∀(l:List (ByteArray×Nat×Nat)) (i:Nat),∀x∈l,∃e∈cmdE i l,e.key=.string x.1
 | [],_,_,h=>by cases h
 |y::l,i,x,h=>by
  rcases List.mem_cons.1 h with rfl|h
  ·exact ⟨_,List.mem_cons_self ..,rfl⟩
  ·obtain ⟨e,he,hk⟩:=cmdE_all l (i+1) x h;exact ⟨e,List.mem_cons_of_mem _ he,hk⟩
theorem Tryz.zeroCmd (w:World):(zeroValue 66).run Tryz.prog w=.ok (.agg #[.int .i64 0,.nilFunc]) w:=by kernel_rfl
theorem look_yes {w:World} {g i:Nat} {es:Array MapEntry} {c:Nat} {x:Value} (s:ByteArray) (hb:w.heap[g]? =some (.map es c)) (hf:Instr.findNow .string (.string s) es.toList 0=some (some (i,x))):
  (Instr.lookup 68 (.map (some g)) (.string s) true).run Tryz.prog w=.ok (.tuple #[x,.bool true]) w:=by
 have hc:∀e,(Instr.checkKey e 10000 9 (.string s)).run Tryz.prog w=.ok () w:=fun e=>MapKept.run_checkKey (k:= .string s) Tryz.underlying9 (by simp [MapKept.IsKey]) e 9999
 simp [Instr.lookup,run_underlying Tryz.underlying68,MapKept.run_getObj_map hb,hc,MapKept.run_findKey Tryz.underlying9 hf,Result.andThen]
theorem look_no {w:World} {g:Nat} {es:Array MapEntry} {c:Nat} (s:ByteArray) (hb:w.heap[g]? =some (.map es c)) (hf:Instr.findNow .string (.string s) es.toList 0=some none):
  (Instr.lookup 68 (.map (some g)) (.string s) true).run Tryz.prog w=.ok (.tuple #[.agg #[.int .i64 0,.nilFunc],.bool false]) w:=by
 have hc:∀e,(Instr.checkKey e 10000 9 (.string s)).run Tryz.prog w=.ok () w:=fun e=>MapKept.run_checkKey (k:= .string s) Tryz.underlying9 (by simp [MapKept.IsKey]) e 9999
 simp [Instr.lookup,run_underlying Tryz.underlying68,MapKept.run_getObj_map hb,hc,MapKept.run_findKey Tryz.underlying9 hf,Result.andThen]
theorem look_cmd (s:ByteArray):(∃x∈cmdL,x.1=s∧∀(w0 w:World) (g:Nat),CMap w0 g 19 w→(Instr.lookup 68 (.map (some g)) (.string s) true).run Tryz.prog w=.ok (.tuple #[cmdV x.2.1 x.2.2,.bool true]) w)∨
  ((∀x∈cmdL,x.1≠s)∧∀(w0 w:World) (g:Nat),CMap w0 g 19 w→(Instr.lookup 68 (.map (some g)) (.string s) true).run Tryz.prog w=.ok (.tuple #[.agg #[.int .i64 0,.nilFunc],.bool false]) w):=by
 have hk:MapKept.IsKey .string (.string s):=trivial;rcases MapKept.findNow_spec hk (cmdE 0 cmdL) 0 (cmdE_key _ _) with ⟨h1,h2⟩|⟨j,e,h1,h2,h3⟩
 ·refine .inr ⟨fun x hx e=>?_,fun w0 w g h=>look_no s h.1 h1⟩;obtain ⟨y,hy,hk⟩:=cmdE_all cmdL 0 x hx;exact h2 y hy (by rw [hk,e])
 ·obtain ⟨x,hx,e1,e2⟩:=cmdE_at cmdL 0 j e h2;rw [h3] at e1;injection e1 with e1
  refine .inl ⟨x,hx,e1.symm,fun w0 w g h=>?_⟩;rw [←e2];exact look_yes s h.1 h1
theorem look_word (s:ByteArray):∃(n:Nat) (fv:Value) (is:Bool),(∀(w0 w:World) (g:Nat),CMap w0 g 19 w→(Instr.lookup 68 (.map (some g)) (.string s) true).run Tryz.prog w=.ok (.tuple #[.agg #[.int .i64 n,fv],.bool is]) w)∧
  ((is=true∧∃x∈cmdL,x.1=s∧x.2.1=n∧fv=.func (.func x.2.2) #[] #[])∨(is=false∧fv=.nilFunc∧∀x∈cmdL,x.1≠s)):=by
 rcases look_cmd s with ⟨x,hx,h1,h2⟩|⟨h1,h2⟩
 ·exact ⟨x.2.1,.func (.func x.2.2) #[] #[],true,h2,.inl ⟨rfl,x,hx,h1,rfl,rfl⟩⟩
 ·exact ⟨0,.nilFunc,false,h2,.inr ⟨rfl,rfl,h1⟩⟩
theorem cbox_store {w:World} {q B:Nat} {a b:Value} (h:w.heap[q]? =some (.cells #[a,b] 66 (0,0))) (x y:Value) (hB:B≤q):((w.setCell ⟨q,0,none⟩ x).setCell ⟨q,1,none⟩ y).heap[q]? =some (.cells #[x,y] 66 (0,0))∧Below B w ((w.setCell ⟨q,0,none⟩ x).setCell ⟨q,1,none⟩ y):=
 ⟨by simp [World.setCell,Array.getElem?_modify,h],((Below.refl _ _).setCell (p:=⟨q,0,none⟩) hB x).setCell (p:=⟨q,1,none⟩) hB y⟩
theorem cmd_enters (x:ByteArray×Nat×Nat) (hx:x∈cmdL) (args:Array Value) (w:World):(callFunc x.2.2 args).run Tryz.prog w=.ok (.enter x.2.2 args) w:=by
 simp only [cmdL,List.mem_cons,List.mem_nil_iff,or_false] at hx;rcases hx with rfl|rfl|rfl|rfl|rfl|rfl|rfl|rfl|rfl|rfl|rfl|rfl|rfl|rfl|rfl|rfl|rfl|rfl|rfl
 ·exact enters_of Tryz.func36 (by kernel_rfl) rfl args w
 ·exact enters_of Tryz.func37 (by kernel_rfl) rfl args w
 ·exact enters_of Tryz.func38 (by kernel_rfl) rfl args w
 ·exact enters_of Tryz.func39 (by kernel_rfl) rfl args w
 ·exact enters_of Tryz.func40 (by kernel_rfl) rfl args w
 ·exact enters_of Tryz.func41 (by kernel_rfl) rfl args w
 ·exact enters_of Tryz.func42 (by kernel_rfl) rfl args w
 ·exact enters_of Tryz.func43 (by kernel_rfl) rfl args w
 ·exact enters_of Tryz.func44 (by kernel_rfl) rfl args w
 ·exact enters_of Tryz.func45 (by kernel_rfl) rfl args w
 ·exact enters_of Tryz.func46 (by kernel_rfl) rfl args w
 ·exact enters_of Tryz.func47 (by kernel_rfl) rfl args w
 ·exact enters_of Tryz.func48 (by kernel_rfl) rfl args w
 ·exact enters_of Tryz.func49 (by kernel_rfl) rfl args w
 ·exact enters_of Tryz.func50 (by kernel_rfl) rfl args w
 ·exact enters_of Tryz.func51 (by kernel_rfl) rfl args w
 ·exact enters_of Tryz.func52 (by kernel_rfl) rfl args w
 ·exact enters_of Tryz.func53 (by kernel_rfl) rfl args w
 ·exact enters_of Tryz.func54 (by kernel_rfl) rfl args w
theorem wpList_insert {w0 w:World} {g n:Nat} {ops:Array Oper} {rest:List Oper} {o:Oper} {a:Act} {Q:Exit→Act→World→Prop} (hg:o.guard=none) (m x v:Operand) (hop:o.op=Op.insert 68 m x v) (hm:a.eval m=.map (some g)) (s:ByteArray) (hx:a.eval x=.string s) (val:Value) (hv:a.eval v=val)
  (h:CMap w0 g n w) (hf:Instr.findNow .string (.string s) (cmdE 0 (cmdL.take n)) 0=some none) (he:cmdE 0 (cmdL.take n)++[⟨.string s,val,n⟩]=cmdE 0 (cmdL.take (n+1)))
  (hK:∀w',CMap w0 g (n+1) w'→wpList Tryz.prog ops Q rest (a.put o.dst undef) w'):wpList Tryz.prog ops Q (o::rest) a w:=by
 refine wpList_plain hg fun K' hK'=>?_
 have hc:∀e,(Instr.checkKey e 10000 9 (.string s)).run Tryz.prog w=.ok () w:=fun e=>MapKept.run_checkKey (k:= .string s) Tryz.underlying9 (by simp [MapKept.IsKey]) e 9999
 have hrun:(Instr.mapUpdate 68 (.map (some g)) (.string s) val).run Tryz.prog w=.ok () {w with heap:=w.heap.setIfInBounds g (.map ((cmdE 0 (cmdL.take n)).toArray.push ⟨.string s,val,n⟩) (n+1))}:=by
  simp [Instr.mapUpdate,run_underlying Tryz.underlying68,MapKept.run_getObj_map h.1,hc,MapKept.run_findKey Tryz.underlying9 (l:=cmdE 0 (cmdL.take n)) hf,MapKept.run_setObj_map _ h.1,Result.andThen]
 unfold Oper.wp;simp [execOp,hop,hm,hx,hv,hrun,Result.andThen];refine hK' _ _ (hK _ ⟨?_,h.2.1,?_⟩)
 ·rw [he];exact (MapKept.heap_set h.1).1
 ·refine h.2.2.trans ⟨rfl,rfl,rfl,by simp,fun k hk=>?_⟩;exact (MapKept.heap_set h.1).2 k (by have:=h.2.1;omega)
theorem commands_any (w:World):Calls Tryz.prog 24 #[] w fun e w'=>e=.returned (.map (some w.heap.size))∧Hid (CMap w w.heap.size 19 w'):=by
 have hmm:=@run_makeMap Tryz.prog;go_enter Tryz.func24,Tryz.ntmps24;have h0:CMap w w.heap.size 0 (w.alloc (.map #[] 0)):=⟨heap_alloc_new _ _,Nat.le_refl _,(Below.refl _ _).alloc (Nat.le_refl _) _⟩;go_wp2_with (refine wpList_insert rfl _ _ _ rfl rfl _ rfl _ rfl h0 (by rfl) (by rfl) ?_;clear h0;intro w1 h0);go_ret;exact ⟨rfl,h0⟩
section
variable {E:Nat→Addr} {w:World} {B nb sb pb tn:Nat} {kv:Value} {P:PlayS}
theorem cmdServe_any (a b:ByteArray) (v:Value) (h:Plays E w B nb sb pb tn kv P) (hv:SPart w B v [a,b]) (_:a.size≤1000) (_:b.size≤1000) (_:tn<100000000):
  Calls Tryz.prog 36 #[.pointer (some ⟨pb,0,none⟩),v] w (CmdPost E B pb tn kv ((putN P.net a b).1,okW,{P with net:=(putN P.net a b).2}) w):=by
 refine post_hide fun R0 HR0=>?_
 obtain ⟨g,off,cap,rfl,hc1,hc2,R⟩:=h.words hv;have HH:=Lib.hid h;have hbw:=Below.refl w.heap.size w;clear hv h;go_enter Tryz.func36,Tryz.ntmps36;have KS:Hid (∀W,Keeps PRow B w W→W.cell? ⟨pb,1,none⟩=some (.pointer (some ⟨nb,0,none⟩))∧W.cell? ⟨g,off,none⟩=some (.string a)∧W.cell? ⟨g,off+1,none⟩=some (.string b)):=fun W hW=>⟨(R W hW).p1,(R W hW).ws 0 (by simp),(R W hW).ws 1 (by simp)⟩
 have hdr:Below w.heap.size w w.drew:=hbw.trans ((below_drewN _ _ 1).mono hbw.size);obtain ⟨d0,d1,d2⟩:=KS.out _ (HH.out.fresh hbw);have hd:=HH.out.below hdr;obtain ⟨_,_,_,_,_,hp⟩:=hd.prog;have C:=Lib.hid (netPut_any (E:=E) B nb tn P.net a b w.drew hp.net (by omega) (by omega) hd.size hd.ft.net);have hr:=scPut_le P.net a b;obtain ⟨r,hrr⟩:∃r,putN P.net a b=r:=⟨_,rfl⟩;rw [hrr] at C hr;have HRR:=Lib.hid hrr;clear hrr hd hp;clear R;go_wp2_with fail;go_region_held3 (fun W:World=>W.cell? ⟨pb,1,none⟩=some (.pointer (some ⟨nb,0,none⟩))∧W.cell? ⟨g,off,none⟩=some (.string a)∧W.cell? ⟨g,off+1,none⟩=some (.string b)) (first|exact ⟨d0,d1,d2⟩|exact x2|exact KS.out _ (HH.out.fresh hdr))
  (first
   |(go_at_call 72;refine C.out.mono ?_;rintro e w2 ⟨rfl,hn,hk⟩;have x2:=KS.out _ ((HH.out.fresh hdr).trans hk.toKeeps.p_net))
   |fail)
 all_goals
  go_wp2_with fail;go_ret2;rw [←HR0.out];rw [HRR.out];exact CmdPost.net HH.out hdr hn hk hr rfl
theorem cmdOff_any (a:ByteArray) (v:Value) (h:Plays E w B nb sb pb tn kv P) (hv:SPart w B v [a]) (_:a.size≤1000) (_:tn<100000000):
  Calls Tryz.prog 39 #[.pointer (some ⟨pb,0,none⟩),v] w (CmdPost E B pb tn kv ((hostN P.net a false).1,okW,{P with net:=(hostN P.net a false).2}) w):=by
 refine post_hide fun R0 HR0=>?_
 obtain ⟨g,off,cap,rfl,hc1,hc2,R⟩:=h.words hv;have HH:=Lib.hid h;have hbw:=Below.refl w.heap.size w;clear hv h;go_enter Tryz.func39,Tryz.ntmps39;have KS:Hid (∀W,Keeps PRow B w W→W.cell? ⟨pb,1,none⟩=some (.pointer (some ⟨nb,0,none⟩))∧W.cell? ⟨g,off,none⟩=some (.string a)):=fun W hW=>⟨(R W hW).p1,(R W hW).ws 0 (by simp)⟩
 have hdr:Below w.heap.size w w.drew:=hbw.trans ((below_drewN _ _ 1).mono hbw.size);obtain ⟨d0,d1⟩:=KS.out _ (HH.out.fresh hbw);have hd:=HH.out.below hdr;obtain ⟨_,_,_,_,_,hp⟩:=hd.prog;have C:=Lib.hid (netHost_any (E:=E) B nb tn P.net a false w.drew hp.net (by omega) (by omega) hd.size hd.ft.net);have hr:=scHost_le P.net a false;obtain ⟨r,hrr⟩:∃r,hostN P.net a false=r:=⟨_,rfl⟩;rw [hrr] at C hr;have HRR:=Lib.hid hrr;clear hrr hd hp;clear R;go_wp2_with fail;go_region_held3 (fun W:World=>W.cell? ⟨pb,1,none⟩=some (.pointer (some ⟨nb,0,none⟩))∧W.cell? ⟨g,off,none⟩=some (.string a)) (first|exact ⟨d0,d1⟩|exact x2|exact KS.out _ (HH.out.fresh hdr))
  (first
   |(go_at_call 76;refine C.out.mono ?_;rintro e w2 ⟨rfl,hn,hk⟩;have x2:=KS.out _ ((HH.out.fresh hdr).trans hk.toKeeps.p_net))
   |fail)
 all_goals
  go_wp2_with fail;go_ret2;rw [←HR0.out];rw [HRR.out];exact CmdPost.net HH.out hdr hn hk hr rfl
theorem cmdOn_any (a:ByteArray) (v:Value) (h:Plays E w B nb sb pb tn kv P) (hv:SPart w B v [a]) (_:a.size≤1000) (_:tn<100000000):
  Calls Tryz.prog 40 #[.pointer (some ⟨pb,0,none⟩),v] w (CmdPost E B pb tn kv ((hostN P.net a true).1,okW,{P with net:=(hostN P.net a true).2}) w):=by
 refine post_hide fun R0 HR0=>?_
 obtain ⟨g,off,cap,rfl,hc1,hc2,R⟩:=h.words hv;have HH:=Lib.hid h;have hbw:=Below.refl w.heap.size w;clear hv h;go_enter Tryz.func40,Tryz.ntmps40;have KS:Hid (∀W,Keeps PRow B w W→W.cell? ⟨pb,1,none⟩=some (.pointer (some ⟨nb,0,none⟩))∧W.cell? ⟨g,off,none⟩=some (.string a)):=fun W hW=>⟨(R W hW).p1,(R W hW).ws 0 (by simp)⟩
 have hdr:Below w.heap.size w w.drew:=hbw.trans ((below_drewN _ _ 1).mono hbw.size);obtain ⟨d0,d1⟩:=KS.out _ (HH.out.fresh hbw);have hd:=HH.out.below hdr;obtain ⟨_,_,_,_,_,hp⟩:=hd.prog;have C:=Lib.hid (netHost_any (E:=E) B nb tn P.net a true w.drew hp.net (by omega) (by omega) hd.size hd.ft.net);have hr:=scHost_le P.net a true;obtain ⟨r,hrr⟩:∃r,hostN P.net a true=r:=⟨_,rfl⟩;rw [hrr] at C hr;have HRR:=Lib.hid hrr;clear hrr hd hp;clear R;go_wp2_with fail;go_region_held3 (fun W:World=>W.cell? ⟨pb,1,none⟩=some (.pointer (some ⟨nb,0,none⟩))∧W.cell? ⟨g,off,none⟩=some (.string a)) (first|exact ⟨d0,d1⟩|exact x2|exact KS.out _ (HH.out.fresh hdr))
  (first
   |(go_at_call 76;refine C.out.mono ?_;rintro e w2 ⟨rfl,hn,hk⟩;have x2:=KS.out _ ((HH.out.fresh hdr).trans hk.toKeeps.p_net))
   |fail)
 all_goals
  go_wp2_with fail;go_ret2;rw [←HR0.out];rw [HRR.out];exact CmdPost.net HH.out hdr hn hk hr rfl
theorem cmdCut_any (a b:ByteArray) (v:Value) (h:Plays E w B nb sb pb tn kv P) (hv:SPart w B v [a,b]) (_:a.size≤1000) (_:b.size≤1000) (_:tn<100000000):
  Calls Tryz.prog 41 #[.pointer (some ⟨pb,0,none⟩),v] w (CmdPost E B pb tn kv (match numOf (bl b) 9 with|none=>(1,[],P)|some n=>((cutN P.net a n).1,okW,{P with net:=(cutN P.net a n).2})) w):=by
 refine post_hide fun R0 HR0=>?_
 obtain ⟨g,off,cap,rfl,hc1,hc2,R⟩:=h.words hv;have HH:=Lib.hid h;have C:=Lib.hid (scNumber_any (E:=E) b w (by omega) h.ft.tape.1 h.ft.tape.2.1 h.ft.env);have q1:w.cell? ⟨g,off+1,none⟩=some (.string b):=(R w (Keeps.refl _ _ _)).ws 1 (by simp);clear hv h;go_enter Tryz.func41,Tryz.ntmps41;go_wp2_with fail;refine C.out.mono ?_;clear C q1;rintro e w1 ⟨⟨k,rfl,HK,hk9⟩|⟨rfl,HK⟩,hbw⟩
 ·skip
  have KS:Hid (∀W,Keeps PRow B w W→W.cell? ⟨pb,1,none⟩=some (.pointer (some ⟨nb,0,none⟩))∧W.cell? ⟨g,off,none⟩=some (.string a)):=fun W hW=>⟨(R W hW).p1,(R W hW).ws 0 (by simp)⟩
  have hdr:Below w.heap.size w w1.drew:=hbw.trans ((below_drewN _ _ 1).mono hbw.size);obtain ⟨d0,d1⟩:=KS.out _ (HH.out.fresh hbw);have hd:=HH.out.below hdr;obtain ⟨_,_,_,_,_,hp⟩:=hd.prog;have C:=Lib.hid (netCut_any (E:=E) B nb tn P.net a (k:Int) w1.drew hp.net (by omega) (by omega) (by omega) hd.size hd.ft.net);have hr:=scCut_le P.net a k;obtain ⟨r,hrr⟩:∃r,cutN P.net a k=r:=⟨_,rfl⟩;rw [hrr] at C hr;have HRR:=Lib.hid hrr;clear hrr hd hp;clear R;go_wp2_with fail;go_region_held3 (fun W:World=>W.cell? ⟨pb,1,none⟩=some (.pointer (some ⟨nb,0,none⟩))∧W.cell? ⟨g,off,none⟩=some (.string a)) (first|exact ⟨d0,d1⟩|exact x2|exact KS.out _ (HH.out.fresh hdr))
   (first
    |(go_at_call 78;refine C.out.mono ?_;rintro e w2 ⟨rfl,hn,hk⟩;have x2:=KS.out _ ((HH.out.fresh hdr).trans hk.toKeeps.p_net))
    |fail)
  all_goals
   go_wp2_with fail;go_ret2;rw [←HR0.out];rw [show numOf (bl b) 9=some k from HK.out];dsimp only;rw [HRR.out];exact CmdPost.net HH.out hdr hn hk hr rfl
 ·clear R;go_wp2_with fail;go_ret2;rw [←HR0.out];rw [show numOf (bl b) 9=none from HK.out];exact CmdPost.bad (er:=⟨1,none⟩) HH.out hbw (IsErr.sent (by decide)) (by simp) _
theorem cmdPack_any (a b:ByteArray) (v:Value) (h:Plays E w B nb sb pb tn kv P) (hv:SPart w B v [a,b]) (_:a.size≤1000) (hb:b.size≤1000) (_:tn<100000000):
  Calls Tryz.prog 37 #[.pointer (some ⟨pb,0,none⟩),v] w (CmdPost E B pb tn kv (if (filesW (bl b)).1≠0 then ((filesW (bl b)).1,[],P) else ((putN P.net a (baW (packL (filesW (bl b)).2))).1,okW,{P with net:=(putN P.net a (baW (packL (filesW (bl b)).2))).2})) w):=by
 refine post_hide fun R0 HR0=>?_
 obtain ⟨g,off,cap,rfl,hc1,hc2,R⟩:=h.words hv;have HH:=Lib.hid h;have C:=Lib.hid (scFiles_any (E:=E) b w hb h.ft);have HOK:=Lib.hid (@filesW_right (bl b));have q1:w.cell? ⟨g,off+1,none⟩=some (.string b):=(R w (Keeps.refl _ _ _)).ws 1 (by simp);clear hv h;go_enter Tryz.func37,Tryz.ntmps37;go_wp2_with fail;refine C.out.mono ?_;clear C q1;rintro e w1 ⟨⟨fv,ev,er,rfl,HI,HO⟩,hb1⟩;obtain ⟨r0,hr0⟩:∃r,filesW (bl b)=r:=⟨_,rfl⟩;rw [hr0] at HI HO HOK;obtain ⟨fc,fl⟩:=r0;have HF0:=Lib.hid hr0;clear hr0;by_cases hz:fc=0
 ·subst hz;obtain rfl:ev=.nilIface:=HI.out.1.zero HI.out.2;have hok:=HOK.out rfl;dsimp only at hok;have hsm:=right_small hok;have C:=Lib.hid (packMake_any (E:=E) fv fl w1 HO.out.row (by omega) hsm.2.1 (HH.out.below hb1).ft.1.1);have HPK:=Lib.hid (packT_right hok);have HSZ:Hid ((packL fl).length≤20000):=packL_fits hok;have HOKT:=Lib.hid hok;clear HI hsm hok HOK;go_wp2_with fail;refine C.out.mono ?_;clear C;rintro e w2 ⟨⟨t,ev,rfl,HT,HI⟩,hb2⟩;obtain rfl:ev=.nilIface:=HI.out.zero HOKT.out;have hts:t.size≤20000:=by
   have h1:=HSZ.out;rw [←HPK.out,←HT.out,bl_length] at h1;exact h1
  have hbw:=hb1.trans (hb2.mono hb1.size);have HTX:Hid (packL fl=bl t):=by show _=_;rw [HT.out,HPK.out]
  clear HT HPK HSZ HI HO hb1 hb2 HOKT;have KS:Hid (∀W,Keeps PRow B w W→W.cell? ⟨pb,1,none⟩=some (.pointer (some ⟨nb,0,none⟩))∧W.cell? ⟨g,off,none⟩=some (.string a)):=fun W hW=>⟨(R W hW).p1,(R W hW).ws 0 (by simp)⟩
  have hdr:Below w.heap.size w w2.drew:=hbw.trans ((below_drewN _ _ 1).mono hbw.size);obtain ⟨d0,d1⟩:=KS.out _ (HH.out.fresh hbw);have hd:=HH.out.below hdr;obtain ⟨_,_,_,_,_,hp⟩:=hd.prog;have C:=Lib.hid (netPut_any (E:=E) B nb tn P.net a t w2.drew hp.net (by omega) (by omega) hd.size hd.ft.net);have hr:=scPut_le P.net a t;obtain ⟨r,hrr⟩:∃r,putN P.net a t=r:=⟨_,rfl⟩;rw [hrr] at C hr;have HRR:=Lib.hid hrr;clear hrr hd hp;clear R;go_wp2_with fail;go_region_held3 (fun W:World=>W.cell? ⟨pb,1,none⟩=some (.pointer (some ⟨nb,0,none⟩))∧W.cell? ⟨g,off,none⟩=some (.string a)) (first|exact ⟨d0,d1⟩|exact x2|exact KS.out _ (HH.out.fresh hdr))
   (first
    |(go_at_call 72;refine C.out.mono ?_;rintro e w4 ⟨rfl,hn,hk⟩;have x2:=KS.out _ ((HH.out.fresh hdr).trans hk.toKeeps.p_net))
    |fail)
  all_goals
   go_wp2_with fail;go_ret2;rw [←HR0.out];rw [HF0.out];dsimp only;rw [if_neg (by simp),show packL fl=bl t from HTX.out,baW_bl,HRR.out];exact CmdPost.net HH.out hdr hn hk hr rfl
 ·have hc:er.code≠0:=by rw [HI.out.2];exact hz
  obtain ⟨te,xv,rfl⟩:=HI.out.1.some_inv hc;have HI1:=Lib.hid HI.out.1;have he:er.code=fc:=HI.out.2;clear R HI HO HOK;go_wp2_with fail;go_ret2;rw [←HR0.out];rw [HF0.out];dsimp only;rw [if_pos hz,←he];exact CmdPost.bad HH.out hb1 HI1.out hc _
theorem cmdPress_any (a b:ByteArray) (v:Value) (h:Plays E w B nb sb pb tn kv P) (hv:SPart w B v [a,b]) (_:a.size≤1000) (hb:b.size≤1000) (_:tn<100000000):
  Calls Tryz.prog 38 #[.pointer (some ⟨pb,0,none⟩),v] w (CmdPost E B pb tn kv (if (filesW (bl b)).1≠0 then ((filesW (bl b)).1,[],P) else ((putN P.net a (baW (pressL (packL (filesW (bl b)).2)))).1,okW,{P with net:=(putN P.net a (baW (pressL (packL (filesW (bl b)).2)))).2})) w):=by
 refine post_hide fun R0 HR0=>?_
 obtain ⟨g,off,cap,rfl,hc1,hc2,R⟩:=h.words hv;have HH:=Lib.hid h;have C:=Lib.hid (scFiles_any (E:=E) b w hb h.ft);have HOK:=Lib.hid (@filesW_right (bl b));have q1:w.cell? ⟨g,off+1,none⟩=some (.string b):=(R w (Keeps.refl _ _ _)).ws 1 (by simp);clear hv h;go_enter Tryz.func38,Tryz.ntmps38;go_wp2_with fail;refine C.out.mono ?_;clear C q1;rintro e w1 ⟨⟨fv,ev,er,rfl,HI,HO⟩,hb1⟩;obtain ⟨r0,hr0⟩:∃r,filesW (bl b)=r:=⟨_,rfl⟩;rw [hr0] at HI HO HOK;obtain ⟨fc,fl⟩:=r0;have HF0:=Lib.hid hr0;clear hr0;by_cases hz:fc=0
 ·subst hz;obtain rfl:ev=.nilIface:=HI.out.1.zero HI.out.2;have hok:=HOK.out rfl;dsimp only at hok;have hsm:=right_small hok;have C:=Lib.hid (packMake_any (E:=E) fv fl w1 HO.out.row (by omega) hsm.2.1 (HH.out.below hb1).ft.1.1);have HPK:=Lib.hid (packT_right hok);have HSZ:Hid ((packL fl).length≤20000):=packL_fits hok;have HOKT:=Lib.hid hok;clear HI hsm hok HOK;go_wp2_with fail;refine C.out.mono ?_;clear C;rintro e w2 ⟨⟨t,ev,rfl,HT,HI⟩,hb2⟩;obtain rfl:ev=.nilIface:=HI.out.zero HOKT.out;have hts:t.size≤20000:=by
   have h1:=HSZ.out;rw [←HPK.out,←HT.out,bl_length] at h1;exact h1
  have hbw:=hb1.trans (hb2.mono hb1.size);have HTX:Hid (packL fl=bl t):=by show _=_;rw [HT.out,HPK.out]
  clear HT HPK HSZ HI HO hb1 hb2 HOKT;have KS:Hid (∀W,Keeps PRow B w W→W.cell? ⟨pb,1,none⟩=some (.pointer (some ⟨nb,0,none⟩))∧W.cell? ⟨g,off,none⟩=some (.string a)):=fun W hW=>⟨(R W hW).p1,(R W hW).ws 0 (by simp)⟩
  have hdr:Below w.heap.size w w2.drew:=hbw.trans ((below_drewN _ _ 1).mono hbw.size);obtain ⟨d0,d1⟩:=KS.out _ (HH.out.fresh hbw);have CP:Hid (∀W,Below w.heap.size w W→Calls Tryz.prog 75 #[.string t] W fun e w'=>∃u:ByteArray,e=.returned (.string u)∧Hid (bl u=pressL (bl t))∧u.size≤100000000∧Below W.heap.size W w'):=fun W hW=>by
   refine (press_any t W (by omega) (HH.out.below hW).ft.1.1.2).mono ?_;rintro e w' ⟨u,rfl,hu,hbu⟩;refine ⟨u,rfl,hu,?_,hbu⟩;have h1:=pressL_len (bl t) (by rw [bl_length];omega);rw [←show bl u=pressL (bl t) from hu,bl_length,bl_length] at h1;omega
  have CN:Hid (∀(W:World) (u:ByteArray),Below w.heap.size w W→u.size≤100000000→Calls Tryz.prog 72 #[.pointer (some ⟨nb,0,none⟩),.string a,.string u] W (NetPost E B nb tn (putN P.net a u) W)):=fun W u hW hu=>by
   obtain ⟨_,_,_,_,_,hp⟩:=(HH.out.below hW).prog;exact netPut_any (E:=E) B nb tn P.net a u W hp.net (by omega) hu (HH.out.below hW).size (HH.out.below hW).ft.net
  clear R;go_wp2_with fail;go_region_held3 (fun W:World=>W.cell? ⟨pb,1,none⟩=some (.pointer (some ⟨nb,0,none⟩))∧W.cell? ⟨g,off,none⟩=some (.string a)) (first|exact ⟨d0,d1⟩|exact x4|exact x3|exact KS.out _ (HH.out.fresh hdr))
   (first
    |(go_at_call 72;refine (CN.out _ _ hbu hus).mono ?_;rintro e w4 ⟨rfl,hn,hk⟩;have x4:=KS.out _ ((HH.out.fresh hbu).trans hk.toKeeps.p_net))
    |(go_at_call 75;refine (CP.out _ hdr).mono ?_;rintro e w3 ⟨u,rfl,HU,hus,hb3⟩;have hbu:Below w.heap.size w w3:=hdr.trans (hb3.mono hdr.size);have x3:=KS.out _ (HH.out.fresh hbu))
    |fail)
  all_goals
   go_wp2_with fail;go_ret2;rw [←HR0.out];rw [HF0.out];dsimp only;rw [if_neg (by simp),show packL fl=bl t from HTX.out,←HU.out,baW_bl];exact CmdPost.net HH.out hbu hn hk (scPut_le _ _ _) rfl
 ·have hc:er.code≠0:=by rw [HI.out.2];exact hz
  obtain ⟨te,xv,rfl⟩:=HI.out.1.some_inv hc;have HI1:=Lib.hid HI.out.1;have he:er.code=fc:=HI.out.2;clear R HI HO HOK;go_wp2_with fail;go_ret2;rw [←HR0.out];rw [HF0.out];dsimp only;rw [if_pos hz,←he];exact CmdPost.bad HH.out hb1 HI1.out hc _
end
theorem splitRow_any (s:ByteArray) (c:UInt8) (w:World) (_:s.size≤1000000000) (hm:∃m,w.cell? ⟨14,0,none⟩=some (.int .i64 m)):
  Calls Tryz.prog 22 #[.string s,.string ⟨#[c]⟩] w fun e w'=>
   (∃(zs:List ByteArray) (n:Nat),e=.returned (.slice (some ⟨w.heap.size,0,none⟩) n n)∧Hid (zs.map bl=cutL c (bl s))∧n=zs.length∧n≤s.size+1∧Hid (∀z∈zs,z.size≤s.size)∧Hid (w'.heap[w.heap.size]? =some (.cells (zs.map Value.string).toArray 9 (0,0))))∧Below w.heap.size w w':=by
 obtain ⟨m,hm⟩:=hm;refine (Tryz.strings_Split s ⟨#[c]⟩ m w (by omega) hm (Nat.le_refl 1)).mono ?_;rintro e w' ⟨rfl,rfl⟩;have hl:=Lib.splitB_all ⟨#[c]⟩ (Nat.le_refl 1) 0 _ s rfl;have hc:Lib.countB s ⟨#[c]⟩≤s.size:=Lib.countB_le ⟨#[c]⟩ (Nat.le_refl 1) _ s (Nat.le_refl _);exact ⟨⟨Lib.splitB ⟨#[c]⟩ 0 (Lib.countB s ⟨#[c]⟩) s,_,rfl,splitB_cut s c,hl.symm,by omega,split_size s c,heap_alloc_new _ _⟩,(Below.refl _ w).alloc (Nat.le_refl _) _⟩
theorem words_from (g n k:Nat) (_:k≤n):∃a,(∀W:World,(Instr.slice 22 (.slice (some ⟨g,0,none⟩) n n) (some (.int .i64 (k:Int))) none none).run Tryz.prog W=.ok (.slice a (n-k) (n-k)) W)∧
  ∀(W:World) (B:Nat) (zs:List ByteArray),zs.length=n→n≤maxLen→B≤g→W.heap[g]? =some (.cells (zs.map Value.string).toArray 9 (0,0))→SPart W B (.slice a (n-k) (n-k)) (zs.drop k):=by
 refine ⟨if n=k then some ⟨g,0,none⟩ else some ⟨g,k,none⟩,fun W=>?_,fun W B zs hz hm hB hg=>?_⟩
 ·have h:=run_slice_l (P:=Tryz.prog) W 22 (some ⟨g,0,none⟩) n n (by kernel_rfl) .i64 (k:Int) (by omega) (by omega);refine Eq.trans h ?_;by_cases h1:n=k<;>simp [sliced,go_sem,h1]
 ·by_cases h1:n=k
  ·rw [if_pos h1];refine .inl ⟨List.drop_eq_nil_of_le (by omega),_,0,by rw [h1,Nat.sub_self],Nat.zero_le _,fun h=>by cases h⟩
  ·rw [if_neg h1];refine .inr ⟨g,k,n-k,_,by rw [List.length_drop,hz],hB,hg,by rw [List.length_drop];omega,by omega,fun i hi=>?_⟩;rw [List.length_drop] at hi;rw [List.getElem_drop];simp
section
variable {E:Nat→Addr} {w:World} {B nb sb pb tn:Nat} {kv:Value} {P:PlayS}
def cmdW:List (List UInt8×Nat):=[([115,101,114,118,101],2),([112,97,99,107],2),([112,114,101,115,115],2),([111,102,102],1),([111,110],1),([99,117,116],2),([99,97,108,108,115],0),([115,117,109],1),([119,97,110,116],5),([117,110,119,97,110,116],1),([102,101,116,99,104],1),([104,101,108,100],0),([100,114,111,112],1),([108,111,99,107],0),([107,101,101,112],0),([108,111,97,100],0),([102,97,105,108],1),([97,103,97,105,110],0),([99,108,101,97,110],1)]
theorem cmdW_eq:cmdL.map (fun x=>(bl x.1,x.2.1))=cmdW:=rfl
theorem doW_none (k:List UInt8) (ws:List (List UInt8)) (h:∀x∈cmdL,¬(bl x.1=k∧x.2.1=ws.length)):doW P k ws=(1,[],P):=by
 have n:∀y∈cmdW,¬(k=y.1∧ws.length=y.2):=by
  rw [←cmdW_eq];intro y hy h1;obtain ⟨x,hx,rfl⟩:=List.mem_map.1 hy;exact h x hx ⟨h1.1.symm,h1.2.symm⟩
 simp only [cmdW,List.mem_cons,List.mem_nil_iff,or_false,forall_eq_or_imp,forall_eq] at n;obtain ⟨n1,n2,n3,n4,n5,n6,n7,n8,n9,n10,n11,n12,n13,n14,n15,n16,n17,n18,n19⟩:=n;unfold doW;rw [if_neg n1,if_neg n2,if_neg n3,if_neg n4,if_neg n5,if_neg n6,if_neg n7,if_neg n8,if_neg n9,if_neg n10,if_neg n11,if_neg n12,if_neg n13,if_neg n14,if_neg n15,if_neg n16,if_neg n17,if_neg n18,if_neg n19]
theorem cmd_same {x y:ByteArray×Nat×Nat} (hx:x∈cmdL) (hy:y∈cmdL) (h:x.1=y.1):x=y:=by
 have key:(cmdL.map fun x=>bl x.1).Nodup:=by rw [show cmdL.map (fun x=>bl x.1)=cmdW.map (·.1) from rfl];decide
 obtain ⟨i,hi,rfl⟩:=List.getElem_of_mem hx;obtain ⟨j,hj,rfl⟩:=List.getElem_of_mem hy;have pw:=List.pairwise_iff_getElem.1 key;have hij:i=j:=by
  rcases Nat.lt_trichotomy i j with hl|hl|hl
  ·exact absurd (by rw [List.getElem_map,List.getElem_map,h]) (pw i j (by rw [List.length_map];exact hi) (by rw [List.length_map];exact hj) hl)
  ·exact hl
  ·exact absurd (by rw [List.getElem_map,List.getElem_map,h]) (pw j i (by rw [List.length_map];exact hj) (by rw [List.length_map];exact hi) hl)
 subst hij;rfl
theorem bl_lit (l:List UInt8):bl ⟨l.toArray⟩=l:=rfl
theorem list2 {α:Type} {l:List α} (h:2=l.length):∃a b,l=[a,b]:=match l,h with| [a,b],_=>⟨a,b,rfl⟩
theorem list1 {α:Type} {l:List α} (h:1=l.length):∃a,l=[a]:=match l,h with| [a],_=>⟨a,rfl⟩
theorem list0 {α:Type} {l:List α} (h:0=l.length):l=[]:=List.eq_nil_of_length_eq_zero h.symm
theorem list5 {α:Type} {l:List α} (h:5=l.length):∃a b c u z,l=[a,b,c,u,z]:=match l,h with| [a,b,c,u,z],_=>⟨a,b,c,u,z,rfl⟩
theorem does_any (x:ByteArray×Nat×Nat) (hx:x∈cmdL) (ws:List ByteArray) (v:Value) (h:Plays E w B nb sb pb tn kv P) (hv:SPart w B v ws) (hn:x.2.1=ws.length) (hz:∀z∈ws,z.size≤1000) (ht:tn<100000000):
  Calls Tryz.prog x.2.2 #[.pointer (some ⟨pb,0,none⟩),v] w (CmdPost E B pb tn kv (doW P (bl x.1) (ws.map bl)) w):=by
 simp only [cmdL,List.mem_cons,List.mem_nil_iff,or_false] at hx;rcases hx with rfl|rfl|rfl|rfl|rfl|rfl|rfl|rfl|rfl|rfl|rfl|rfl|rfl|rfl|rfl|rfl|rfl|rfl|rfl
 ·obtain ⟨a,b,rfl⟩:=list2 hn;have:=cmdServe_any a b v h hv (hz a (by simp)) (hz b (by simp)) ht;simpa [doW,baW_bl,bl_lit] using this
 ·obtain ⟨a,b,rfl⟩:=list2 hn;have:=cmdPack_any a b v h hv (hz a (by simp)) (hz b (by simp)) ht;simpa [doW,baW_bl,bl_lit] using this
 ·obtain ⟨a,b,rfl⟩:=list2 hn;have:=cmdPress_any a b v h hv (hz a (by simp)) (hz b (by simp)) ht;simpa [doW,baW_bl,bl_lit] using this
 ·obtain ⟨a,rfl⟩:=list1 hn;have:=cmdOff_any a v h hv (hz a (by simp)) ht;simpa [doW,baW_bl,bl_lit] using this
 ·obtain ⟨a,rfl⟩:=list1 hn;have:=cmdOn_any a v h hv (hz a (by simp)) ht;simpa [doW,baW_bl,bl_lit] using this
 ·obtain ⟨a,b,rfl⟩:=list2 hn;have:=cmdCut_any a b v h hv (hz a (by simp)) (hz b (by simp)) ht;cases h1:numOf (bl b) 9<;>simpa [doW,baW_bl,bl_lit,h1] using this
 ·obtain rfl:=list0 hn;have:=cmdCalls_any v h ht;simpa [doW,bl_lit] using this
 ·obtain ⟨a,rfl⟩:=list1 hn;have:=cmdSum_any a v h hv (hz a (by simp)) ht;simpa [doW,baW_bl,bl_lit] using this
 ·obtain ⟨a,b,c,u,z,rfl⟩:=list5 hn;have:=cmdWant_any a b c u z v h hv (hz a (by simp)) (hz b (by simp)) (hz c (by simp)) (hz u (by simp)) (hz z (by simp)) ht;cases h1:numOf (bl u) 9<;>cases h2:sumW (bl z)<;>simpa [doW,bl_lit,h1,h2] using this
 ·obtain ⟨a,rfl⟩:=list1 hn;have:=cmdUnwant_any a v h hv (hz a (by simp)) ht;simpa [doW,baW_bl,bl_lit] using this
 ·obtain ⟨a,rfl⟩:=list1 hn;have:=cmdFetch_any a v h hv (hz a (by simp)) ht;simpa [doW,baW_bl,bl_lit] using this
 ·obtain rfl:=list0 hn;have:=cmdHeld_any v h ht;simpa [doW,bl_lit] using this
 ·obtain ⟨a,rfl⟩:=list1 hn;have:=cmdDrop_any a v h hv (hz a (by simp)) ht;cases h1:sumW (bl a)<;>simpa [doW,bl_lit,h1] using this
 ·obtain rfl:=list0 hn;have:=cmdLock_any v h ht;simpa [doW,bl_lit] using this
 ·obtain rfl:=list0 hn;have:=cmdKeep_any v h ht;simpa [doW,bl_lit] using this
 ·obtain rfl:=list0 hn;have:=cmdLoad_any v h ht;cases h1:P.kept<;>simpa [doW,bl_lit,h1] using this
 ·obtain ⟨a,rfl⟩:=list1 hn;have:=cmdFail_any a v h hv (hz a (by simp)) ht;cases h1:numOf (bl a) 9<;>simpa [doW,bl_lit,h1] using this
 ·obtain rfl:=list0 hn;have:=cmdAgain_any v h ht;obtain ⟨recs,hs⟩:=h.has;simpa [doW,hs.opens,bl_lit] using this
 ·obtain ⟨a,rfl⟩:=list1 hn;have:=cmdClean_any a v h hv (hz a (by simp)) ht;simpa [doW,baW_bl,bl_lit] using this
end
end Go.Proofs.YtaabgmbjmfjdjaaGreatDoor
