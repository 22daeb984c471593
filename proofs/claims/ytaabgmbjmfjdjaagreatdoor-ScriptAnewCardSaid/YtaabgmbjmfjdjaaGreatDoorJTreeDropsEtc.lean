import Derived.Test.YtaabgmbjmfjdjaaGreatDoorJWantsUp
import Derived.Test.YtaabgmbjmfjdjaaGreatDoorJPackedUpEtc
import Derived.Test.YtaabgmbjmfjdjaaGreatDoorJRanged
import Derived.IntWalk
import Derived.Test.YtaabgmbjmfjdjaaGreatDoorJPressedUpEtc
import Derived.Test.YtaabgmbjmfjdjaaGreatDoorJTreePlains
import Derived.Test.YtaabgmbjmfjdjaaGreatDoorJSortSeqEtc
import Derived.Test.YtaabgmbjmfjdjaaGreatDoorJLockPlainsEtc
import Derived.Test.YtaabgmbjmfjdjaaGreatDoorJParsedEtc
import Derived.Shelf.SlSortCmp.KitK
import Derived.Sort.OwnSorted
namespace Go.Proofs.YtaabgmbjmfjdjaaGreatDoor
open Go Go.RowKit Go.Sort
set_option maxHeartbeats 2000000
set_option maxRecDepth 100000
abbrev encW (f:WantB):List Value:=[.string f.name,.string f.url,.string f.kind,.int .i64 f.strip,.int .i64 f.sum]
def WRow (w:World) (v:Value) (l:List WantB):Prop:=
 ∃ao cap,v=.slice ao l.length cap∧l.length≤cap∧cap≤maxLen∧(∀i,i<l.length→∃b off,ao=some ⟨b,off,none⟩∧b<w.heap.size∧
  ∀k,(hk:k<l.length)→(w.cell? ⟨b,off+k*5,none⟩=some (.string l[k].name)∧w.cell? ⟨b,off+k*5+1,none⟩=some (.string l[k].url)∧w.cell? ⟨b,off+k*5+2,none⟩=some (.string l[k].kind)∧w.cell? ⟨b,off+k*5+3,none⟩=some (.int .i64 l[k].strip)∧w.cell? ⟨b,off+k*5+4,none⟩=some (.int .i64 l[k].sum)))
theorem WRow.ext {w w':World} {v:Value} {l:List WantB} (h:WRow w v l) (hb:Below w.heap.size w w'):WRow w' v l:=by
 obtain ⟨ao,cap,h1,h2,h3,h4⟩:=h;refine ⟨ao,cap,h1,h2,h3,fun i hi=>?_⟩;obtain ⟨b,off,e,hbl,hc⟩:=h4 i hi;refine ⟨b,off,e,Nat.lt_of_lt_of_le hbl hb.size,fun k hk=>?_⟩;obtain ⟨q0,q1,q2,q3,q4⟩:=hc k hk;exact ⟨by rw [hb.cell (p:=⟨b,off+k*5,none⟩) hbl];exact q0,by rw [hb.cell (p:=⟨b,off+k*5+1,none⟩) hbl];exact q1,by rw [hb.cell (p:=⟨b,off+k*5+2,none⟩) hbl];exact q2,by rw [hb.cell (p:=⟨b,off+k*5+3,none⟩) hbl];exact q3,by rw [hb.cell (p:=⟨b,off+k*5+4,none⟩) hbl];exact q4⟩
theorem WRow.len {w:World} {v:Value} {l:List WantB} (h:WRow w v l):∃ao cap,v=.slice ao l.length cap:=by
 obtain ⟨ao,cap,e,_⟩:=h;exact ⟨ao,cap,e⟩
theorem WRow.at {w:World} {ao:Option Addr} {n cap k:Nat} {l:List WantB} (h:WRow w (.slice ao n cap) l) (hk:k<l.length):∃b off,ao=some ⟨b,off,none⟩∧∀W,Below w.heap.size w W→(W.cell? ⟨b,off+k*5,none⟩=some (.string l[k].name)∧W.cell? ⟨b,off+k*5+1,none⟩=some (.string l[k].url)∧W.cell? ⟨b,off+k*5+2,none⟩=some (.string l[k].kind)∧W.cell? ⟨b,off+k*5+3,none⟩=some (.int .i64 l[k].strip)∧W.cell? ⟨b,off+k*5+4,none⟩=some (.int .i64 l[k].sum)):=by
 obtain ⟨ao',cap',e,_,_,h4⟩:=h;injection e with e0 _ _
 subst e0;obtain ⟨b,off,e,hbl,hc⟩:=h4 k hk;obtain ⟨q0,q1,q2,q3,q4⟩:=hc k hk;refine ⟨b,off,e,fun W hb=>⟨by rw [hb.cell (p:=⟨b,off+k*5,none⟩) hbl];exact q0,by rw [hb.cell (p:=⟨b,off+k*5+1,none⟩) hbl];exact q1,by rw [hb.cell (p:=⟨b,off+k*5+2,none⟩) hbl];exact q2,by rw [hb.cell (p:=⟨b,off+k*5+3,none⟩) hbl];exact q3,by rw [hb.cell (p:=⟨b,off+k*5+4,none⟩) hbl];exact q4⟩⟩
def WArg (w:World) (v:Value) (l:List WantB):Prop:=WRow w v l∧∀n c,v=.slice none n c→n=0∧c=0
theorem WArg.ext {w w':World} {v:Value} {l:List WantB} (h:WArg w v l) (hb:Below w.heap.size w w'):WArg w' v l:=⟨h.1.ext hb,h.2⟩
def WOwn (w:World) (base:Nat) (v:Value) (l:List WantB):Prop:=w.ownsRow base 134 5 v l.length (l.flatMap encW)
theorem WOwn.nil (w:World) (base:Nat):WOwn w base (.slice none 0 0) []:=World.ownsRow_nil _ _ _ _
theorem WOwn.arg {w:World} {base:Nat} {v:Value} {l:List WantB} (h:WOwn w base v l):WArg w v l:=by
 rcases Row.of_owns (enc:=encW) (fun _=>rfl) h with ⟨rfl,rfl⟩|⟨g,off,cap,rfl,hn,hc,hlt,hcell⟩
 ·exact ⟨⟨none,0,rfl,Nat.le_refl _,Nat.zero_le _,fun i hi=>absurd hi (Nat.not_lt_zero _)⟩,fun n c e=>by injection e with _ e1 e2;exact ⟨e1.symm,e2.symm⟩⟩
 ·refine ⟨⟨_,cap,rfl,hn,hc,fun i hi=>⟨g,off,rfl,hlt,fun k hk=>?_⟩⟩,fun n c e=>by injection e with e0;cases e0⟩;exact ⟨hcell k hk 0 (by decide),hcell k hk 1 (by decide),hcell k hk 2 (by decide),hcell k hk 3 (by decide),hcell k hk 4 (by decide)⟩
theorem WOwn.shape {w:World} {base:Nat} {v:Value} {l:List WantB} (h:WOwn w base v l):∃ao cap,v=.slice ao l.length cap:=by
 obtain ⟨⟨ao,cap,h1,_⟩,_⟩:=h.arg;exact ⟨ao,cap,h1⟩
theorem WOwn.ext {w w':World} {base:Nat} {v:Value} {l:List WantB} (h:WOwn w base v l) (hb:Below w.heap.size w w'):WOwn w' base v l:=owns_below h hb
theorem WOwn.row {w:World} {base:Nat} {v:Value} {l:List WantB} (h:WOwn w base v l):WRow w v l:=h.arg.1
theorem WOwn.low {w:World} {base base':Nat} {v:Value} {l:List WantB} (h:WOwn w base v l) (hb:base'≤base):WOwn w base' v l:=row_mono h hb
theorem WOwn.store {w:World} {base:Nat} {v:Value} {l:List WantB} (h:WOwn w base v l) {q o:Nat} (hq:∀g,v.ownBlock=some g→g≠q) (x:Value):WOwn (w.setCell ⟨q,o,none⟩ x) base v l:=by
 refine World.ownsRow.kept h (row:=some q) ⟨rfl,rfl,rfl,(KeepsWalks.setCell w _ x).size,fun k _ hk=>Below.heap_setCell _ _ _ k (fun e=>hk (by rw [e]))⟩ ?_
 cases hv:v.ownBlock with
 |none=>exact .inl rfl
 |some g=>exact .inr (fun e=>hq g hv (by cases e;rfl))
theorem setCells_row {w:World} {g o:Nat} {cur:Array Value} {t:TypeId} {cs:List Value} (hg:w.heap[g]? =some (.cells cur t (0,0))) (hfit:o+cs.length≤cur.size) (h1:∀v∈cs,v.oneCell'=true):
  w.setCells g o cs=w.setRow g (splice cur.toList o cs).toArray:=by
 have a:=run_storeCells_cells (P:=Tryz.prog) g o cs 0 w (fun j hj=>by rw [Lib.cell_of_heap hg,Array.getElem?_eq_getElem (by omega)];rfl) (fun j hj=>Lib.frozen_of_heap hg _) h1;have b:=run_storeCells_at Tryz.prog g o t cs 0 cur w hg (by simpa using hfit) h1;rw [a] at b;simp only [Nat.add_zero] at b;injection b with _ b
 rw [b,List.append_assoc];rfl
theorem del_take {α:Type} (L xs z:List α) (a c:Nat) (hac:a≤c) (hc:c≤xs.length) (hL:xs.length≤L.length) (ht:L.take xs.length=xs) (_:z.length=c-a):
  (splice (splice L a (xs.drop c)) (a+(xs.drop c).length) z).take (a+(xs.drop c).length)=xs.take a++xs.drop c:=by
 have hd:(xs.drop c).length=xs.length-c:=List.length_drop;have e0:L.take a=xs.take a:=by
  have:(L.take xs.length).take a=L.take a:=by rw [List.take_take,Nat.min_eq_left (by omega)]
  rw [←this,ht]
 have e1:(splice L a (xs.drop c)).take (a+(xs.drop c).length)=xs.take a++xs.drop c:=by
  refine take_is (R:=L.drop (a+(xs.drop c).length)) ?_ (by rw [List.length_append,List.length_take];omega);show L.take a++(xs.drop c++L.drop (a+(xs.drop c).length))=_;rw [e0,List.append_assoc]
 have hs:(splice L a (xs.drop c)).length=L.length:=splice_len _ _ _ (by omega);refine take_is (R:=z++(splice L a (xs.drop c)).drop (a+(xs.drop c).length+z.length)) ?_ (by rw [List.length_append,List.length_take];omega);show (splice L a (xs.drop c)).take (a+(xs.drop c).length)++(z++_)=_;rw [e1]
def findI:Option Nat→Int
 |none=>-1
 |some k=>k
def WantIxPost (l:List WantB) (p:ByteArray) (w:World) (e:Ending) (w':World):Prop:=e=.returned (.int .i64 (findI (findW p l)))∧Below w.heap.size w w'
theorem findW_first:∀{l:List WantB} {p:ByteArray} {k:Nat},(∀f∈l.take k,f.name≠p)→(hk:k<l.length)→l[k].name=p→findW p l=some k
 | [],_,_,_,hk,_=>absurd hk (by simp)
 |x::l,p,0,_,_,h=>by unfold findW;rw [if_pos (by simpa using h)]
 |x::l,p,k+1,h1,hk,h=>by
  unfold findW;rw [if_neg (h1 x (by simp)),findW_first (k:=k) (fun f hf=>h1 f (by rw [List.take_succ_cons];exact List.mem_cons_of_mem _ hf)) (by simpa using hk) (by simpa using h)];rfl
theorem find1_any (f:WantB) (p:ByteArray) (pb:Nat) (w:World) (hp:w.cell? ⟨pb,0,none⟩=some (.string p)):
  Calls Tryz.prog 162 #[.agg #[.string f.name,.string f.url,.string f.kind,.int .i64 f.strip,.int .i64 f.sum],.pointer (some ⟨pb,0,none⟩)] w fun e w'=>e=.returned (.bool (decide (f.name=p)))∧Below w.heap.size w w':=by
 have hal:Below w.heap.size w (w.alloc (.cells #[.string f.name,.string f.url,.string f.kind,.int .i64 f.strip,.int .i64 f.sum] 134)):=(Below.refl _ _).alloc (Nat.le_refl _) _;have hpl:=World.block_lt_of_cell? _ _ hp;have HA:=Lib.hid hal;have hq:=Lib.hid (str_eqb f.name p);clear hal;go_enter Tryz.func162,Tryz.ntmps162;go_wp2_with fail;go_ret;rw [←hq.out];exact ⟨rfl,HA.out⟩
theorem indexName_any (v:Value) (l:List WantB) (p:ByteArray) (pb:Nat) (w:World) (hv:WRow w v l) (hl:l.length≤100000) (hp:w.cell? ⟨pb,0,none⟩=some (.string p)):
  Calls Tryz.prog 161 #[v,.func (.func 162) #[] #[.pointer (some ⟨pb,0,none⟩)]] w (WantIxPost l p w):=by
 obtain ⟨ao,cap,rfl,h1,h2,H3⟩:=hv;have HM:=Lib.hid H3;have HP:=Lib.hid hp;have HPL:=Lib.hid (World.block_lt_of_cell? _ _ hp);clear H3 hp;go_enter Tryz.func161,Tryz.ntmps161;go_wp2_with fail;go_loopw [5,8] (fun _ i wr=>∃k:Nat,k≤l.length∧i=.int .i64 k∧Hid (∀f∈l.take k,f.name≠p)∧Below w.heap.size w wr) (fun _ i _=>l.length- (intOf i).toNat)
 case atStart=>exact ⟨0,Nat.zero_le _,rfl,(fun f h=>by cases h),Below.refl _ _⟩
 case round=>
  obtain ⟨k,hk,rfl,HA,hb⟩:=hrel;by_cases hlt:k<l.length
  ·obtain ⟨b,off,rfl,hbl,hcell⟩:=HM.out k hlt;obtain ⟨q0,q1,q2,q3,q4⟩:=hcell k hlt;rw [←hb.cell (p:=⟨b,off+k*5,none⟩) hbl] at q0;rw [←hb.cell (p:=⟨b,off+k*5+1,none⟩) hbl] at q1;rw [←hb.cell (p:=⟨b,off+k*5+2,none⟩) hbl] at q2;rw [←hb.cell (p:=⟨b,off+k*5+3,none⟩) hbl] at q3;rw [←hb.cell (p:=⟨b,off+k*5+4,none⟩) hbl] at q4;have HT:Hid (l[k].name≠p→∀f∈l.take (k+1),f.name≠p):=fun hne f hf=>by
    rw [List.take_succ_eq_append_getElem hlt] at hf;rcases List.mem_append.1 hf with h|h
    ·exact HA.out f h
    ·obtain rfl:=List.mem_singleton.1 h;exact hne
   clear hcell;have hpr:wr.cell? ⟨pb,0,none⟩=some (.string p):=by rw [hb.cell (p:=⟨pb,0,none⟩) HPL.out];exact HP.out
   have C:=Lib.hid (find1_any l[k] p pb wr hpr);by_cases hq:l[k].name=p
   ·have HQ:=Lib.hid (findW_first HA.out hlt hq);rw [decide_eq_true hq] at C;obtain ⟨f,hf⟩:∃f,l[k]=f:=⟨_,rfl⟩;rw [hf] at q0 q1 q2 q3 q4 C;clear hpr hq HT HA hf;go_wp2_with fail;refine C.out.mono ?_;clear C;rintro e w2 ⟨rfl,hb2⟩;have hb3:=hb.trans (hb2.mono hb.size);go_wp2_with fail;go_ret;exact ⟨by rw [HQ.out];rfl,hb3⟩
   ·have HQ:=Lib.hid (HT.out hq);rw [decide_eq_false hq] at C;obtain ⟨f,hf⟩:∃f,l[k]=f:=⟨_,rfl⟩;rw [hf] at q0 q1 q2 q3 q4 C;clear hpr hq HT HA hf;go_wp2_with fail;refine C.out.mono ?_;clear C;rintro e w2 ⟨rfl,hb2⟩;have hb3:=hb.trans (hb2.mono hb.size);go_wp2_with fail;go_roundw
    case rel=>exact ⟨k+1,by omega,by go_num,HQ,hb3⟩
    case measure=>simp [intOf];omega
  ·obtain rfl:k=l.length:=by omega
   have HQ:Hid (∀f∈l,f.name≠p):=by have:=HA.out;rwa [List.take_length] at this
   go_wp2_with fail;go_ret;exact ⟨by rw [findW_none.2 HQ.out];rfl,hb⟩
theorem wenc_one (l:List WantB):∀u∈l.flatMap encW,u.oneCell'=true:=fun u hu=>by
 obtain ⟨f,_,hf⟩:=List.mem_flatMap.1 hu;simp at hf;rcases hf with rfl|rfl|rfl|rfl|rfl<;>rfl
theorem wenc_one1 (f:WantB):∀u∈encW f,u.oneCell'=true:=fun u hu=>by
 simp at hu;rcases hu with rfl|rfl|rfl|rfl|rfl<;>rfl
theorem wenc_len (l:List WantB):(l.flatMap encW).length=l.length*5:=flatMap_len encW 5 (fun _=>rfl) l
theorem wenc_take:∀(l:List WantB) (i:Nat),(l.flatMap encW).take (i*5)=(l.take i).flatMap encW
 | [],i=>by simp
 |f::l,0=>by simp
 |f::l,i+1=>by
  rw [List.take_succ_cons,List.flatMap_cons,List.flatMap_cons,←wenc_take l i,show (i+1)*5=(encW f).length+i*5 by show _=5+_;omega,List.take_length_add_append]
theorem wenc_drop:∀(l:List WantB) (i:Nat),(l.flatMap encW).drop (i*5)=(l.drop i).flatMap encW
 | [],i=>by simp
 |f::l,0=>by simp
 |f::l,i+1=>by
  rw [List.drop_succ_cons,List.flatMap_cons,←wenc_drop l i,show (i+1)*5=(encW f).length+i*5 by show _=5+_;omega,List.drop_length_add_append]
theorem wone_cells {w:World} {vb:Nat} {f:WantB} (hvb:w.heap[vb]? =some (.cells (encW f).toArray 134 (0,0))):∀j u,(encW f)[j]? =some u→w.cell? (Addr.add ⟨vb,0,none⟩ j)=some u:=by
 intro j u hj;rw [Addr.add_lit,Nat.zero_add];exact row_cells hvb (xs:=encW f) (by rfl) j u hj
def WInsertPost (base:Nat) (m:List WantB) (w:World) (e:Ending) (w':World):Prop:=(∃ov,e=.returned ov∧Hid (WOwn w' base ov m))∧Below base w w'
theorem winsertEnd_any (f:WantB) (l:List WantB) (base vb:Nat) (v:Value) (w:World) (hl:l.length≤10000) (hv:WOwn w base v l) (hvb:w.heap[vb]? =some (.cells (encW f).toArray 134 (0,0))) (hbs:base≤w.heap.size):
  Calls Tryz.prog 159 #[v,.int .i64 l.length,.slice (some ⟨vb,0,none⟩) 1 1] w (WInsertPost base (l++[f]) w):=by
 obtain ⟨i0,hi0,hz0,hz1,hz2⟩:=info_parts Tryz.infoWant;obtain ⟨ao,cap,rfl⟩:=hv.shape;have HV:Hid (w.ownsRow base 134 5 (.slice ao l.length cap) l.length (l.flatMap encW)):=hv;have HC:=Lib.hid (wone_cells hvb);have HI:=Lib.hid (wenc_one1 f);have hcap:l.length≤cap:=by obtain ⟨_,_,e,h,_⟩:=hv.arg.1;injection e with _ _ e;omega
 have hmx:cap≤maxLen:=by obtain ⟨_,_,e,_,h,_⟩:=hv.arg.1;injection e with _ _ e;omega
 clear hv hvb;obtain ⟨n,hn⟩:∃n,l.length=n:=⟨_,rfl⟩;have HN:=Lib.hid hn;rw [hn] at hl hcap HV⊢;clear hn;rw [maxLen_eq] at hmx;go_enter Tryz.func159,Tryz.ntmps159
 cases ao with
 |none=>
  go_wp2_with (at_builtin;refine wpList_append_own _ rfl _ _ 83 rfl base 134 i0 (.agg #[.string ⟨#[]⟩,.string ⟨#[]⟩,.string ⟨#[]⟩,.int .i64 0,.int .i64 0]) 5 64 Tryz.underlying83 hi0 hz0 hz1 hz2 rfl (by decide) _ n (l.flatMap encW) rfl HV.out ⟨vb,0,none⟩ 1 1 (encW f) rfl rfl HC.out HI.out (by rw [maxLen_eq];omega) (by omega) hbs ?_);intro v' w' hown hgrow _;have H:Hid (WOwn w' base v' (l++[f])):=by
   show World.ownsRow _ _ _ _ _ _ _;rw [List.length_append,List.flatMap_append,HN.out];simpa using hown
  have hb:Below base w w':=(Below.refl _ _).grown hgrow hbs (fun r e=>(World.ownsRow.lt HV.out r e).1);clear hown hgrow HV HC;go_wp2_with fail;go_ret;exact ⟨⟨_,rfl,H⟩,hb⟩
 |some ad=>
  obtain ⟨ab,ao,asp⟩:=ad;go_wp2_with (at_builtin;refine wpList_append_own _ rfl _ _ 83 rfl base 134 i0 (.agg #[.string ⟨#[]⟩,.string ⟨#[]⟩,.string ⟨#[]⟩,.int .i64 0,.int .i64 0]) 5 64 Tryz.underlying83 hi0 hz0 hz1 hz2 rfl (by decide) _ n (l.flatMap encW) rfl HV.out ⟨vb,0,none⟩ 1 1 (encW f) rfl rfl HC.out HI.out (by rw [maxLen_eq];omega) (by omega) hbs ?_)
  all_goals
   intro v' w' hown hgrow _;have H:Hid (WOwn w' base v' (l++[f])):=by
    show World.ownsRow _ _ _ _ _ _ _;rw [List.length_append,List.flatMap_append,HN.out];simpa using hown
   have hb:Below base w w':=(Below.refl _ _).grown hgrow hbs (fun r e=>(World.ownsRow.lt HV.out r e).1);clear hown hgrow HV HC;go_wp2_with fail;go_ret;exact ⟨⟨_,rfl,H⟩,hb⟩
theorem winsertShift_any (f:WantB) (l:List WantB) (base vb g cap i:Nat) (cur:Array Value) (w:World) (hi:i<l.length) (hl:l.length≤10000) (hg:w.heap[g]? =some (.cells cur 134 (0,0))) (hbase:base≤g) (hroom:l.length+1≤cap) (hmax:cap≤maxLen) (hsz:cur.size=cap*5) (ht:cur.toList.take (l.length*5)=l.flatMap encW)
  (hvb:w.heap[vb]? =some (.cells (encW f).toArray 134 (0,0))) (hne:vb≠g):
  Calls Tryz.prog 159 #[.slice (some ⟨g,0,none⟩) l.length cap,.int .i64 i,.slice (some ⟨vb,0,none⟩) 1 1] w (WInsertPost base (l.take i++f::l.drop i) w):=by
 have hinf:(Tryz.prog.info? 134).map (·.size)=some 5:=by kernel_rfl
 have hov:∀lb cb,(callFunc 204 #[.slice (some ⟨vb,0,none⟩) 1 1,.slice (some ⟨g,(i+1)*5,none⟩) lb cb]).run Tryz.prog w=.ok (.value (.bool false)) w:=fun lb cb=>by
  rw [run_callFunc_extern Tryz.func204 (by kernel_rfl) (by kernel_rfl) (by kernel_rfl) (e:=Extern.SlicesOverlaps.overlaps #[83,83] #[4]) (by kernel_rfl),
   Lib.run_overlaps_apart w 83 4 134 Tryz.underlying83 5 Tryz.sizeOf134 ⟨vb,0,none⟩ ⟨g,(i+1)*5,none⟩ 1 1 lb cb hne 134 134 5 (cap*5) (by simp [World.shape?,hvb]) (by simp [World.shape?,hg,hsz]) (by omega) (by simp [World.frozen?,hvb]) (by simp [World.frozen?,hvb])]
  rfl
 obtain ⟨n,hn⟩:∃n,l.length=n:=⟨_,rfl⟩;obtain ⟨xs,hxs⟩:∃xs,l.flatMap encW=xs:=⟨_,rfl⟩;have hxl:xs.length=n*5:=by rw [←hxs,wenc_len,hn]
 have hx1:∀u∈xs,u.oneCell'=true:=by rw [←hxs];exact wenc_one l
 have hin:i<n:=by omega
 have H0:(splice (splice cur.toList ((i+1)*5) (xs.drop (i*5))) (i*5) (encW f)).take ((n+1)*5)=(l.take i++f::l.drop i).flatMap encW:=by
  have h:=splice_up cur.toList xs (encW f) (i*5) (by omega) (by have:=Array.length_toList (xs:=cur);show xs.length+5≤cur.toList.length;omega) (by rw [hxl,←hn,ht,hxs]);rw [show i*5+(encW f).length=(i+1)*5 by show _+5=_;omega,show xs.length+(encW f).length=(n+1)*5 by show _+5=_;omega] at h;rw [h,List.flatMap_append,List.flatMap_cons,←hxs,wenc_take,wenc_drop]
 have H0:=Lib.hid H0;rw [hn,hxs] at ht;rw [hn] at hl hroom⊢;have hml:(l.take i++f::l.drop i).length=n+1:=by simp [hn];omega
 have HML:=Lib.hid hml;clear hn hxs hi hml;have hdl:(xs.drop (i*5)).length=(n-i)*5:=by rw [List.length_drop,hxl];omega
 have hcells:∀j v,xs[j]? =some v→w.cell? ⟨g,j,none⟩=some v:=row_cells hg (by rw [hxl];exact ht);have hcp1:∀ty dc sc,(Builtin.copy_ #[83,83] ty #[.slice (some ⟨g,(i+1)*5,none⟩) (n-i) dc,.slice (some ⟨g,i*5,none⟩) (n+1-i) sc]).run Tryz.prog w.drew=
   .ok (goInt (n-i:Nat)) (w.drew.setRow g (splice cur.toList ((i+1)*5) (xs.drop (i*5))).toArray):=fun ty dc sc=>
  run_copy_rowK w.drew _ _ ty 134 g ((i+1)*5) _ dc ⟨g,i*5,none⟩ _ sc 5 (n-i) cur 134 (xs.drop (i*5)) Tryz.underlying83 hinf hg (by simp only [Nat.min_def];split<;>omega) hdl
   (fun j v hj=>by rw [Addr.add_lit];exact hcells _ v (by rwa [List.getElem?_drop] at hj)) (by rw [hdl,hsz];omega) (fun u hu=>hx1 u (List.mem_of_mem_drop hu))
 have hs1:(splice cur.toList ((i+1)*5) (xs.drop (i*5))).length=cap*5:=by rw [splice_len _ _ _ (by rw [hdl,Array.length_toList,hsz];omega),Array.length_toList,hsz]
 obtain ⟨c1,hc1⟩:∃c1,splice cur.toList ((i+1)*5) (xs.drop (i*5))=c1:=⟨_,rfl⟩;rw [hc1] at hcp1 hs1 H0;have hcp2:∀(W:World),W.heap[g]? =some (.cells c1.toArray 134 (0,0))→(∀j u,(encW f)[j]? =some u→W.cell? (Addr.add ⟨vb,0,none⟩ j)=some u)→∀ty dc,(Builtin.copy_ #[83,83] ty #[.slice (some ⟨g,i*5,none⟩) (n+1-i) dc,.slice (some ⟨vb,0,none⟩) 1 1]).run Tryz.prog W=
   .ok (goInt (1:Nat)) (W.setRow g (splice c1 (i*5) (encW f)).toArray):=fun W hW hv ty dc=>by
  have:=run_copy_rowK W 83 83 ty 134 g (i*5) (n+1-i) dc ⟨vb,0,none⟩ 1 1 5 1 c1.toArray 134 (encW f) Tryz.underlying83 hinf hW (by simp only [Nat.min_def];split<;>omega) rfl hv (by simp [hs1];omega) (wenc_one1 f);simpa using this
 have hvW:∀j u,(encW f)[j]? =some u→(w.drew.setRow g c1.toArray).cell? (Addr.add ⟨vb,0,none⟩ j)=some u:=by
  refine wone_cells (w:=w.drew.setRow g c1.toArray) ?_;rw [setRow_other _ _ _ _ hne];exact hvb
 have hgW:(w.drew.setRow g c1.toArray).heap[g]? =some (.cells c1.toArray 134 (0,0)):=setRow_block (w:=w.drew) hg;have hgE:((w.drew.setRow g c1.toArray).setRow g (splice c1 (i*5) (encW f)).toArray).heap[g]? =some (.cells (splice c1 (i*5) (encW f)).toArray 134 (0,0)):=setRow_block hgW;have hs2:(splice c1 (i*5) (encW f)).length=cap*5:=by rw [splice_len _ _ _ (by show _+5≤_;omega),hs1]
 have hb:Below base w ((w.drew.setRow g c1.toArray).setRow g (splice c1 (i*5) (encW f)).toArray):=below_setRow (below_setRow ((Below.refl base w).drew) hbase _) hbase _;have hz2:¬((i:Int)=(n:Int)):=by omega
 have hw1:IntKind.i64.wrap ((i:Int)+1)=(i:Int)+1:=by rw [IntKind.wrap_i64];omega
 have hb1:(0:Int)≤(i:Int)+1:=by omega
 have hin2:i≤n:=by omega
 have htn:((i:Int)+1).toNat=i+1:=by omega
 have hb2:¬(cap=i+1):=by omega
 have hb3:(i:Int)≤(n:Int)+1:=by omega
 have hb4:¬(cap=i):=by omega
 rw [maxLen_eq] at hmax;clear hc1 hdl hcells hx1 hxl ht;go_enter Tryz.func159,Tryz.ntmps159;go_wp2_with (simp only [hov]);go_region_law (refine step_copyR rfl _ _ 83 83 rfl _ _ (by simp [Act.eval,Act.put]) (by simp [Act.eval,Act.put]) (hcp1 _ _ _) ?_);go_wp2_with fail;rw [hcp2 _ hgW hvW];simp only [Result.andThen_ok];go_wp2_with fail;go_ret;refine ⟨⟨_,rfl,?_⟩,hb⟩;show World.ownsRow _ _ _ _ _ _ _;rw [HML.out,←H0.out];exact ⟨by rw [List.length_take,hs2];omega,.inr ⟨g,cap,_,rfl,hbase,hgE,hroom,by rw [maxLen_eq];omega,by simp [hs2],by simp⟩⟩
theorem winsertGrow_any (f:WantB) (l:List WantB) (base vb g cap i:Nat) (cur:Array Value) (w:World) (hi:i<l.length) (hl:l.length≤10000) (hg:w.heap[g]? =some (.cells cur 134 (0,0))) (hnc:l.length≤cap) (hroom:cap<l.length+1) (_:cur.size=cap*5) (ht:cur.toList.take (l.length*5)=l.flatMap encW)
  (hvb:w.heap[vb]? =some (.cells (encW f).toArray 134 (0,0))) (_:vb≠g) (hbs:base≤w.heap.size):
  Calls Tryz.prog 159 #[.slice (some ⟨g,0,none⟩) l.length cap,.int .i64 i,.slice (some ⟨vb,0,none⟩) 1 1] w (WInsertPost base (l.take i++f::l.drop i) w):=by
 have hinf:(Tryz.prog.info? 134).map (·.size)=some 5:=by kernel_rfl
 obtain ⟨i0,hi0,hz0,hzs,hzb⟩:=info_parts Tryz.infoWant;obtain ⟨n,hn⟩:∃n,l.length=n:=⟨_,rfl⟩;obtain ⟨xs,hxs⟩:∃xs,l.flatMap encW=xs:=⟨_,rfl⟩;have hxl:xs.length=n*5:=by rw [←hxs,wenc_len,hn]
 have hx1:∀u∈xs,u.oneCell'=true:=by rw [←hxs];exact wenc_one l
 have hin:i<n:=by omega
 have hEN:(xs.take (i*5)++(encW f++xs.drop (i*5)))=(l.take i++f::l.drop i).flatMap encW:=by
  rw [List.flatMap_append,List.flatMap_cons,←hxs,wenc_take,wenc_drop]
 have HEN:=Lib.hid hEN;rw [hn,hxs] at ht;rw [hn] at hl hroom hnc⊢;have hml:(l.take i++f::l.drop i).length=n+1:=by simp [hn];omega
 have HML:=Lib.hid hml;clear hn hxs hi hml hEN;have hdl:(xs.drop (i*5)).length=(n-i)*5:=by rw [List.length_drop,hxl];omega
 have hcells:∀j v,xs[j]? =some v→w.cell? ⟨g,j,none⟩=some v:=row_cells hg (by rw [hxl];exact ht);have hold:(Builtin.firstCells i0.size i (.slice (some ⟨g,0,none⟩) i cap)).run Tryz.prog w.drew=.ok (xs.take (i*5)).toArray w.drew:=by
  rw [hzs];exact run_firstCells_some w.drew 5 i ⟨g,0,none⟩ i cap (xs.take (i*5)) (by rw [List.length_take];omega) (fun j v hj=>by
   rw [Addr.add_lit,Nat.zero_add];rw [List.getElem?_take] at hj;split at hj
   ·exact hcells j v hj
   ·cases hj)
 have hrz:∀ty,(Builtin.append_ #[83,3] ty #[.slice (some ⟨g,0,none⟩) i cap,.int .i64 ((n:Int)+1- (i:Int))]).run Tryz.prog w=
   .ok (.slice (some ⟨w.heap.size,0,none⟩) (n+1) (grownCap w (n+1) cap 134)) (w.drew.alloc (.cells ((xs.take (i*5)).toArray++Builtin.zeroCells (Value.agg #[.string ⟨#[]⟩,.string ⟨#[]⟩,.string ⟨#[]⟩,.int .i64 0,.int .i64 0]).cells (n+1-i)++Builtin.zeroCells (Value.agg #[.string ⟨#[]⟩,.string ⟨#[]⟩,.string ⟨#[]⟩,.int .i64 0,.int .i64 0]).cells (grownCap w (n+1) cap 134- (n+1))) 134)):=fun ty=>by
  have h:=Lib.run_append_grow_zeros w 83 3 ty 134 i0 _ .i64 .i64 Tryz.underlying83 Tryz.underlying3 hi0 hz0 (some ⟨g,0,none⟩) i cap (xs.take (i*5)) hold (n+1-i) (by omega) (by omega) (by omega) (by omega) (by rw [hzb];omega) (by rw [hzb,show i+(n+1-i)=n+1 by omega];exact growslice_fits hroom (by omega));rw [show i+(n+1-i)=n+1 by omega] at h;rw [show (n:Int)+1- (i:Int)=((n+1-i:Nat):Int) by omega];exact h
 have hGn:n+1≤grownCap w (n+1) cap 134:=grownCap_ge w _ _ _;have hG63:grownCap w (n+1) cap 134≤9223372036854775807:=by
  have:=grownCap_le_maxLen w (n+1) cap 134 (by unfold maxLen;omega);unfold maxLen at this;omega
 obtain ⟨G,hG⟩:∃G,G=grownCap w (n+1) cap 134:=⟨_,rfl⟩;rw [←hG] at hrz hGn hG63;clear hG hold;obtain ⟨ROW,hROW⟩:∃ROW:List Value,(xs.take (i*5)).toArray++Builtin.zeroCells (Value.agg #[.string ⟨#[]⟩,.string ⟨#[]⟩,.string ⟨#[]⟩,.int .i64 0,.int .i64 0]).cells (n+1-i)++Builtin.zeroCells (Value.agg #[.string ⟨#[]⟩,.string ⟨#[]⟩,.string ⟨#[]⟩,.int .i64 0,.int .i64 0]).cells (G- (n+1))=ROW.toArray:=⟨_,rfl⟩;have hRl:ROW.length=G*5:=by
  have:=congrArg Array.size hROW;simp [Builtin.zeroCells,Value.cells] at this;omega
 have hRt:ROW.take (i*5)=xs.take (i*5):=by
  have h2:=congrArg Array.toList hROW;simp only [Array.toList_append,List.append_assoc] at h2;refine take_is (R:=_) h2.symm ?_;simp;omega
 rw [hROW] at hrz;clear hROW;obtain ⟨N,hN⟩:∃N,w.heap.size=N:=⟨_,rfl⟩;have hgl:g<N:=by rw [←hN];exact (Array.getElem?_eq_some_iff.1 hg).1
 have hvl:vb<N:=by rw [←hN];exact (Array.getElem?_eq_some_iff.1 hvb).1
 have hNb:base≤N:=by rw [←hN];exact hbs
 have hnew:(w.drew.alloc (.cells ROW.toArray 134)).heap[N]? =some (.cells ROW.toArray 134 (0,0)):=by rw [←hN];exact heap_alloc_new w.drew _
 have holdb:∀k,k<N→(w.drew.alloc (.cells ROW.toArray 134)).heap[k]? =w.heap[k]?:=fun k hk=>Below.heap_alloc w.drew _ k (by rw [←hN] at hk;exact hk)
 have hba:Below base w (w.drew.alloc (.cells ROW.toArray 134)):=((Below.refl base w).drew).alloc hbs _;obtain ⟨c1,hc1⟩:∃c1,splice ROW (i*5) (encW f)=c1:=⟨_,rfl⟩;have hs1:c1.length=G*5:=by rw [←hc1,splice_len _ _ _ (by show _+5≤_;omega),hRl]
 obtain ⟨c2,hc2⟩:∃c2,splice c1 ((i+1)*5) (xs.drop (i*5))=c2:=⟨_,rfl⟩;have hs2:c2.length=G*5:=by rw [←hc2,splice_len _ _ _ (by rw [hdl];omega),hs1]
 have H0:Hid (c2.take ((n+1)*5)=(l.take i++f::l.drop i).flatMap encW):=by
  have h:=splice_new ROW xs (encW f) (i*5) (by omega) (by show xs.length+5≤_;omega) hRt;rw [show i*5+(encW f).length=(i+1)*5 by show _+5=_;omega,show xs.length+(encW f).length=(n+1)*5 by show _+5=_;omega,hc1,hc2] at h;exact h.trans HEN.out
 have hcpA:∀(W:World),W.heap[N]? =some (.cells ROW.toArray 134 (0,0))→W.heap[vb]? =w.heap[vb]?→∀ty dc,(Builtin.copy_ #[83,83] ty #[.slice (some ⟨N,i*5,none⟩) (n+1-i) dc,.slice (some ⟨vb,0,none⟩) 1 1]).run Tryz.prog W=
   .ok (goInt (1:Nat)) (W.setRow N c1.toArray):=fun W hW hv ty dc=>by
  have:=run_copy_rowK W 83 83 ty 134 N (i*5) (n+1-i) dc ⟨vb,0,none⟩ 1 1 5 1 ROW.toArray 134 (encW f) Tryz.underlying83 hinf hW (by simp only [Nat.min_def];split<;>omega) rfl (wone_cells (hv.trans hvb)) (by simp [hRl];omega) (wenc_one1 f);rw [←hc1];simpa using this
 have hcpB:∀(W:World),W.heap[N]? =some (.cells c1.toArray 134 (0,0))→W.heap[g]? =w.heap[g]?→∀ty dc sc,(Builtin.copy_ #[83,83] ty #[.slice (some ⟨N,(i+1)*5,none⟩) (n-i) dc,.slice (some ⟨g,i*5,none⟩) (n-i) sc]).run Tryz.prog W=
   .ok (goInt (n-i:Nat)) (W.setRow N c2.toArray):=fun W hW hv ty dc sc=>by
  have:=run_copy_rowK W 83 83 ty 134 N ((i+1)*5) (n-i) dc ⟨g,i*5,none⟩ (n-i) sc 5 (n-i) c1.toArray 134 (xs.drop (i*5)) Tryz.underlying83 hinf hW (by simp only [Nat.min_def];split<;>omega) hdl
   (fun j v hj=>by
    have hq:W.cell? ⟨g,i*5+j,none⟩=w.cell? ⟨g,i*5+j,none⟩:=by simp [World.cell?,hv]
    rw [Addr.add_lit,hq];exact hcells _ v (by rwa [List.getElem?_drop] at hj)) (by rw [hdl];simp [hs1];omega) (fun u hu=>hx1 u (List.mem_of_mem_drop hu))
  rw [←hc2];simpa using this
 obtain ⟨W1,hW1⟩:∃W1,w.drew.alloc (.cells ROW.toArray 134)=W1:=⟨_,rfl⟩;rw [hW1] at hnew holdb hba hrz;have a1:(W1.setRow N c1.toArray).drew.heap[N]? =some (.cells c1.toArray 134 (0,0)):=setRow_block hnew;have a2:(W1.setRow N c1.toArray).drew.heap[g]? =w.heap[g]?:=(setRow_other W1 N g _ (by omega)).trans (holdb g hgl);have a3:((W1.setRow N c1.toArray).drew.setRow N c2.toArray).heap[N]? =some (.cells c2.toArray 134 (0,0)):=setRow_block a1;have hb:Below base w ((W1.setRow N c1.toArray).drew.setRow N c2.toArray):=below_setRow ((below_setRow hba hNb _).drew) hNb _;have HRZ:=Lib.hid hrz;have HCA:=Lib.hid hcpA;have HCB:=Lib.hid hcpB;clear hrz hcpA hcpB;have hz2:¬((i:Int)=(n:Int)):=by omega
 have hz3:(cap:Int)<(n:Int)+1:=by omega
 have hw1:IntKind.i64.wrap ((i:Int)+1)=(i:Int)+1:=by rw [IntKind.wrap_i64];omega
 have hb1:(0:Int)≤(i:Int)+1:=by omega
 have hin2:i≤n:=by omega
 have htn:((i:Int)+1).toNat=i+1:=by omega
 have hb3:(i:Int)≤(n:Int):=by omega
 have hGi:¬(G=i):=by omega
 have hGim:¬(G=i+1):=by omega
 have hci:¬(cap=i):=by omega
 have HW1:=Lib.hid hW1;have HNN:=Lib.hid hN;clear hW1 hN hc1 hc2 hs1 hRl hRt hdl hcells hx1 hxl ht hi0 hz0 hzs hzb;go_enter Tryz.func159,Tryz.ntmps159;go_wp2_with (at_builtin;refine Lib.wpList_append_run _ rfl _ _ _ _ rfl _ _ rfl rfl _ _ (HRZ.out _) ?_);rw [HNN.out];go_wp2_with fail;rw [HCA.out _ hnew (holdb vb hvl)];simp only [Result.andThen_ok];go_wp2_with fail;go_region_law (refine step_copyR rfl _ _ 83 83 rfl (.slice (some ⟨N,(i+1)*5,none⟩) (n-i) (G- (i+1))) (.slice (some ⟨g,i*5,none⟩) (n-i) (cap-i)) (by simp [Act.eval,Act.put]) (by simp [Act.eval,Act.put]) (HCB.out _ a1 a2 3 (G- (i+1)) (cap-i)) ?_);go_wp2_with fail;go_ret;refine ⟨⟨_,rfl,?_⟩,hb⟩;show World.ownsRow _ _ _ _ _ _ _;rw [HML.out,←H0.out];exact ⟨by rw [List.length_take,hs2];omega,.inr ⟨N,G,_,rfl,hNb,a3,hGn,by rw [maxLen_eq];exact hG63,by simp [hs2],by simp⟩⟩
theorem insertWants_any (f:WantB) (l:List WantB) (base vb i:Nat) (v:Value) (w:World) (hi:i≤l.length) (hl:l.length≤10000) (hv:WOwn w base v l) (hvb:w.heap[vb]? =some (.cells (encW f).toArray 134 (0,0))) (hne:some vb≠v.ownBlock) (hbs:base≤w.heap.size):
  Calls Tryz.prog 159 #[v,.int .i64 i,.slice (some ⟨vb,0,none⟩) 1 1] w (WInsertPost base (l.take i++f::l.drop i) w):=by
 by_cases h:i=l.length
 ·subst h;rw [List.take_length,List.drop_length];exact winsertEnd_any f l base vb v w hl hv hvb hbs
 ·rcases hv.2 with ⟨_,h0⟩|⟨g,cap,cur,rfl,hb,hg,hn,hc,hs,ht⟩
  ·omega
  ·have hne2:vb≠g:=fun e=>hne (by rw [e];rfl)
   by_cases hr:l.length+1≤cap
   ·exact winsertShift_any f l base vb g cap i cur w (by omega) hl hg hb hr hc hs ht hvb hne2
   ·exact winsertGrow_any f l base vb g cap i cur w (by omega) hl hg hn (by omega) hs ht hvb hne2 hbs
section
open Go.Lib
def cfW (x y:WantB):Int:=Lib.compareBytes (bl x.name) (bl y.name)
theorem placeW_eq {l:List WantB} {f:WantB} {k:Nat} (hk:k≤l.length) (h1:∀t,(h:t<l.length)→t<k→wLt l[t] f) (h2:∀t,(h:t<l.length)→k≤t→¬wLt l[t] f):placeW l f=k:=by
 unfold placeW;induction l generalizing k with
 |nil=>simp at hk;simp [hk]
 |cons a r ih=>
  cases k with
  |zero=>
   have:=h2 0 (by simp) (Nat.le_refl _);rw [List.takeWhile_cons,if_neg (by simpa using this)];rfl
  |succ k=>
   have:=h1 0 (by simp) (Nat.succ_pos _);rw [List.takeWhile_cons,if_pos (by simpa using this),List.length_cons,ih (k:=k) (by simpa using hk) (fun t h ht=>h1 (t+1) (by simpa using h) (by omega)) (fun t h ht=>h2 (t+1) (by simpa using h) (by omega))]
def WSearchPost (l:List WantB) (f:WantB) (w:World) (e:Ending) (w':World):Prop:=
 e=.returned (.tuple #[.int .i64 (placeW l f),.bool (decide (((l.drop (placeW l f)).head?.map (fun g=>decide (g.name=f.name)))=some true))])∧Below w.heap.size w w'
theorem wgrow_below {w:World} (n:Nat) (os:Array Obj):Below w.heap.size w (grow (w.drewN n) os):=by
 refine ⟨rfl,rfl,rfl,by show w.heap.size≤(w.heap++os).size;simp,fun k hk=>?_⟩;show (w.heap++os)[k]? =_;rw [Array.getElem?_append,if_pos hk]
theorem wsearch_gen (f:WantB) (g:Nat) (eg:∀args w,(callFunc g args).run Tryz.prog w=.ok (.enter g args) w) (hcmp:∀(x:WantB) (w:World),Calls Tryz.prog g (#[.agg (encW x).toArray,.agg (encW f).toArray]++#[]) w fun e w'=>e=.returned (.int .i64 (cfW x f))∧∃q os',w'=grow (w.drewN q) os') (v:Value) (l:List WantB) (w:World) (hl:l.length≤10000) (hv:WRow w v l) (hA:l.Pairwise wLt):
  Calls Tryz.prog 156 #[v,.agg (encW f).toArray,.func (.func g) #[] #[]] w (WSearchPost l f w):=by
 have HG:Aside _:=hcmp;clear hcmp;obtain ⟨ao,cap,rfl,h1,h2,H3⟩:=hv;have HM:=Lib.hid H3;have HA:=Lib.hid hA;have mixed:Tryz.prog.follows .mixedOrders=true:=by kernel_rfl
 clear H3 hA;obtain ⟨n,hn⟩:∃n,l.length=n:=⟨_,rfl⟩;have HN:=Lib.hid hn;rw [hn] at h1 hl⊢;rw [maxLen_eq] at h2;clear hn;obtain ⟨tb,htb⟩:∃tb,w.heap.size=tb:=⟨_,rfl⟩;have hB:Below w.heap.size w (w.alloc (.cells (encW f).toArray 134)):=(Below.refl _ w).alloc (Nat.le_refl _) _;have hT:(w.alloc (.cells (encW f).toArray 134)).heap[tb]? =some (.cells (encW f).toArray 134 (0,0)):=by rw [←htb];exact heap_alloc_new w _
 have HT0:=Lib.hid hT;have HB0:=Lib.hid hB;have HTB:=Lib.hid htb;clear hT hB htb;go_enter Tryz.func156,Tryz.ntmps156;go_wp2_with fail;rw [HTB.out]
 go_loopg [9,10] n (fun kx s9 s10 wr=>∃lo hi:Nat,s9=.int .i64 lo∧s10=.int .i64 hi∧lo≤hi∧hi≤n∧hi-lo≤kx∧Hid (Below w.heap.size w wr)∧Hid (wr.heap[tb]? =some (.cells (encW f).toArray 134 (0,0)))∧
  Hid (∀t,(h:t<l.length)→t<lo→wLt l[t] f)∧Hid (∀t,(h:t<l.length)→hi≤t→¬wLt l[t] f))
 case atStart=>exact ⟨0,n,rfl,rfl,Nat.zero_le _,Nat.le_refl _,Nat.le_refl _,HB0,HT0,fun t _ h=>absurd h (Nat.not_lt_zero _),fun t h h3=>absurd h (by have:=HN.out;omega)⟩
 case round=>
  obtain ⟨lo,hi,rfl,rfl,hlh,hin,hg,HB,HT,H1,H2⟩:=hrel;clear HB0 HT0;have wcells:∀k,(hk:k<l.length)→∃b off,ao=some ⟨b,off,none⟩∧∀W:World,Below w.heap.size w W→W.cell? ⟨b,off+k*5,none⟩=some (.string l[k].name)∧W.cell? ⟨b,off+k*5+1,none⟩=some (.string l[k].url)∧W.cell? ⟨b,off+k*5+2,none⟩=some (.string l[k].kind)∧W.cell? ⟨b,off+k*5+3,none⟩=some (.int .i64 l[k].strip)∧W.cell? ⟨b,off+k*5+4,none⟩=some (.int .i64 l[k].sum):=by
   intro k hk;obtain ⟨b,off,rfl,hbl,hcell⟩:=HM.out k hk;obtain ⟨q0,q1,q2,q3,q4⟩:=hcell k hk;refine ⟨b,off,rfl,fun W hW=>?_⟩;rw [hW.cell (p:=⟨b,off+k*5,none⟩) hbl,hW.cell (p:=⟨b,off+k*5+1,none⟩) hbl,hW.cell (p:=⟨b,off+k*5+2,none⟩) hbl,hW.cell (p:=⟨b,off+k*5+3,none⟩) hbl,hW.cell (p:=⟨b,off+k*5+4,none⟩) hbl];exact ⟨q0,q1,q2,q3,q4⟩
  have tcells:∀(q:Nat) (os:Array Obj),(grow (wr.drewN q) os).cell? ⟨tb,0,none⟩=some (.string f.name)∧(grow (wr.drewN q) os).cell? ⟨tb,1,none⟩=some (.string f.url)∧(grow (wr.drewN q) os).cell? ⟨tb,2,none⟩=some (.string f.kind)∧(grow (wr.drewN q) os).cell? ⟨tb,3,none⟩=some (.int .i64 f.strip)∧(grow (wr.drewN q) os).cell? ⟨tb,4,none⟩=some (.int .i64 f.sum):=by
   intro q os;have hh:(grow (wr.drewN q) os).heap[tb]? =some (.cells (encW f).toArray 134 (0,0)):=((wgrow_below (w:=wr) q os).block tb (Array.getElem?_eq_some_iff.1 HT.out).1).trans HT.out;simp [World.cell?,hh]
  have WC:=Lib.hid wcells;clear wcells;have ly0:=fun q os=>(tcells q os).1
  have ly1:=fun q os=>(tcells q os).2.1
  have ly2:=fun q os=>(tcells q os).2.2.1
  have ly3:=fun q os=>(tcells q os).2.2.2.1
  have ly4:=fun q os=>(tcells q os).2.2.2.2
  clear tcells;by_cases hlt:lo<hi
  ·obtain ⟨q,hq⟩:∃q,(lo+hi)/2=q:=⟨_,rfl⟩;have eq1:((lo:Int)+(hi:Int))/2=(q:Int):=by omega
   have EQ:=Lib.hid eq1;have e1:(((lo:Int)+(hi:Int))/2).toNat=q:=by omega
   have p1:(0:Int)≤((lo:Int)+(hi:Int))/2:=by omega
   have b1:((lo:Int)+(hi:Int))/2<(n:Int):=by omega
   have hqi:lo≤q:=by omega
   have hqj:q<hi:=by omega
   have hqn:q<l.length:=by rw [HN.out];omega
   obtain ⟨b,off,rfl,wc⟩:=WC.out q hqn;have lx0:=fun m os=>(wc (grow (wr.drewN m) os) (HB.out.trans ((wgrow_below m os).mono HB.out.size))).1
   have lx1:=fun m os=>(wc (grow (wr.drewN m) os) (HB.out.trans ((wgrow_below m os).mono HB.out.size))).2.1
   have lx2:=fun m os=>(wc (grow (wr.drewN m) os) (HB.out.trans ((wgrow_below m os).mono HB.out.size))).2.2.1
   have lx3:=fun m os=>(wc (grow (wr.drewN m) os) (HB.out.trans ((wgrow_below m os).mono HB.out.size))).2.2.2.1
   have lx4:=fun m os=>(wc (grow (wr.drewN m) os) (HB.out.trans ((wgrow_below m os).mono HB.out.size))).2.2.2.2
   have hc:∀m os,_:=fun m os=>HG.out l[q] (grow (wr.drewN m) os)
   have HCM:=Lib.hid hc;clear hc hq eq1 wc;by_cases hv:cfW l[q] f<0
   ·have hp:wLt l[q] f:=(cmp_lt _ _).1.1 hv;have H5:Hid (∀t,(h:t<l.length)→t<q+1→wLt l[t] f):=fun t h ht=>by
     by_cases e:t=q
     ·subst e;exact hp
     ·exact ((List.pairwise_iff_getElem.1 HA.out) t q h hqn (by omega)).trans hp
    generalize l[q]=fq at lx0 lx1 lx2 lx3 lx4 HCM hv hp;clear H1 hp;go_wp2_with fail;go_quiet_grown (first|(go_at_fn g;refine Calls.grown_of (HCM.out _ _)));have HB2:=Lib.hid (HB.out.trans ((wgrow_below nq osq).mono HB.out.size));have HT2:Hid ((grow (wr.drewN nq) osq).heap[tb]? =some (.cells (encW f).toArray 134 (0,0))):=((wgrow_below (w:=wr) nq osq).block tb (Array.getElem?_eq_some_iff.1 HT.out).1).trans HT.out;generalize grow (wr.drewN nq) osq=wv at HB2 HT2⊢;clear lx0 lx1 lx2 lx3 lx4 ly0 ly1 ly2 ly3 ly4 HCM HB HT;go_wp2_with fail;go_roundg (hi- (q+1))
    case measure=>omega
    case rel=>exact ⟨q+1,hi,by rw [EQ.out];go_num,rfl,by omega,hin,Nat.le_refl _,HB2,HT2,H5,H2⟩
   ·have hp:¬wLt l[q] f:=fun h=>hv ((cmp_lt _ _).1.2 h)
    have H5:Hid (∀t,(h:t<l.length)→q≤t→¬wLt l[t] f):=fun t h ht hn2=>by
     by_cases e:t=q
     ·subst e;exact hp hn2
     ·exact hp (((List.pairwise_iff_getElem.1 HA.out) q t hqn h (by omega)).trans hn2)
    have hvf:decide (cfW l[q] f<0)=false:=decide_eq_false hv;generalize l[q]=fq at lx0 lx1 lx2 lx3 lx4 HCM hv hp hvf;clear H2 hp;go_wp2_with fail;go_quiet_grown (first|(go_at_fn g;refine Calls.grown_of (HCM.out _ _)));have HB2:=Lib.hid (HB.out.trans ((wgrow_below nq osq).mono HB.out.size));have HT2:Hid ((grow (wr.drewN nq) osq).heap[tb]? =some (.cells (encW f).toArray 134 (0,0))):=((wgrow_below (w:=wr) nq osq).block tb (Array.getElem?_eq_some_iff.1 HT.out).1).trans HT.out;generalize grow (wr.drewN nq) osq=wv at HB2 HT2⊢;clear lx0 lx1 lx2 lx3 lx4 ly0 ly1 ly2 ly3 ly4 HCM HB HT;go_wp2_with fail;go_roundg (q-lo)
    case measure=>omega
    case rel=>exact ⟨lo,q,rfl,by rw [EQ.out],hqi,by omega,Nat.le_refl _,HB2,HT2,H1,H5⟩
  ·obtain rfl:lo=hi:=by omega
   have HIX:=Lib.hid (placeW_eq (by rw [HN.out];exact hin) H1.out H2.out);by_cases hn:lo<n
   ·have hqn:lo<l.length:=by rw [HN.out];exact hn
    obtain ⟨b,off,rfl,wc⟩:=WC.out lo hqn;have lx0:=fun m os=>(wc (grow (wr.drewN m) os) (HB.out.trans ((wgrow_below m os).mono HB.out.size))).1
    have lx1:=fun m os=>(wc (grow (wr.drewN m) os) (HB.out.trans ((wgrow_below m os).mono HB.out.size))).2.1
    have lx2:=fun m os=>(wc (grow (wr.drewN m) os) (HB.out.trans ((wgrow_below m os).mono HB.out.size))).2.2.1
    have lx3:=fun m os=>(wc (grow (wr.drewN m) os) (HB.out.trans ((wgrow_below m os).mono HB.out.size))).2.2.2.1
    have lx4:=fun m os=>(wc (grow (wr.drewN m) os) (HB.out.trans ((wgrow_below m os).mono HB.out.size))).2.2.2.2
    have hc:∀m os,_:=fun m os=>HG.out l[lo] (grow (wr.drewN m) os)
    have HCM:=Lib.hid hc;have HR:Hid (decide (((l.drop lo).head?.map (fun g=>decide (g.name=f.name)))=some true)=decide (cfW l[lo] f=0)):=by
     show _=_;refine decide_eq_decide.2 ?_;rw [List.head?_drop,List.getElem?_eq_getElem hqn];simp only [Option.map_some,Option.some.injEq,decide_eq_true_iff];exact ⟨fun e=>(cmp_lt _ _).2.2 (by rw [e]),fun e=>bl_inj ((cmp_lt _ _).2.1 e)⟩
    clear hc wc WC H1 H2;generalize l[lo]=fq at lx0 lx1 lx2 lx3 lx4 HCM HR;obtain ⟨cv,hcv⟩:∃cv,cfW fq f=cv:=⟨_,rfl⟩;rw [hcv] at HR;have HCV:Hid (∀m os,Calls Tryz.prog g (#[.agg (encW fq).toArray,.agg (encW f).toArray]++#[]) (grow (wr.drewN m) os) fun e w'=>e=.returned (.int .i64 cv)∧∃q os',w'=grow ((grow (wr.drewN m) os).drewN q) os'):=by
     intro m os;have:=HCM.out m os;rw [hcv] at this;exact this
    clear HCM hcv;go_wp2_with fail;go_quiet_grown (first|(go_at_fn g;refine Calls.grown_of (HCV.out _ _)));have HB2:=Lib.hid (HB.out.trans ((wgrow_below nq osq).mono HB.out.size));generalize grow (wr.drewN nq) osq=wv at HB2⊢;clear lx0 lx1 lx2 lx3 lx4 ly0 ly1 ly2 ly3 ly4 HCV HB HT;go_wp2_with fail;go_ret2;refine ⟨?_,HB2.out⟩;rw [HIX.out,HR.out];rfl
   ·have HR:Hid ((l.drop lo).head? =none):=by show _=_;rw [List.drop_eq_nil_of_le (by have:=HN.out;omega)];rfl
    clear ly0 ly1 ly2 ly3 ly4;go_wp2_with fail;go_quiet (fail);have HB2:=Lib.hid (HB.out.trans ((below_drewN wr.heap.size wr nq).mono HB.out.size));go_wp2_with fail;go_ret2;refine ⟨?_,HB2.out⟩;rw [HIX.out,HR.out];rfl
end
theorem zero_want:Builtin.zeroCells (Value.agg #[.string ⟨#[]⟩,.string ⟨#[]⟩,.string ⟨#[]⟩,.int .i64 0,.int .i64 0]).cells 1=#[.string ⟨#[]⟩,.string ⟨#[]⟩,.string ⟨#[]⟩,.int .i64 0,.int .i64 0]:=by kernel_rfl
theorem run_clear_want {w:World} {g o c:Nat} {cur:Array Value} {t:TypeId} (hg:w.heap[g]? =some (.cells cur t (0,0))) (hfit:o+5≤cur.size) (ty:TypeId):
  (Builtin.clear_ #[83] ty #[.slice (some ⟨g,o,none⟩) 1 c]).run Tryz.prog w=.ok (.tuple #[]) (w.setRow g (splice cur.toList o [.string ⟨#[]⟩,.string ⟨#[]⟩,.string ⟨#[]⟩,.int .i64 0,.int .i64 0]).toArray):=by
 have b:=run_storeCells_at Tryz.prog g o t [.string ⟨#[]⟩,.string ⟨#[]⟩,.string ⟨#[]⟩,.int .i64 0,.int .i64 0] 0 cur w hg (by simpa using hfit) (by intro v hv;simp at hv;rcases hv with rfl|rfl|rfl|rfl|rfl<;>rfl);have hz:=Tryz.zeroValue134;simp only [Nat.add_zero] at b;simp [Builtin.clear_,run_underlying Tryz.underlying83,hz,zero_want,b,splice]
theorem deleteWant_any (l:List WantB) (base k:Nat) (v:Value) (w:World) (hk:k<l.length) (hl:l.length≤10000) (hv:WOwn w base v l):
  Calls Tryz.prog 160 #[v,.int .i64 k,.int .i64 ((k:Int)+1)] w fun e w'=>(∃ov,e=.returned ov∧Hid (WOwn w' base ov (l.take k++l.drop (k+1))))∧Below base w w':=by
 obtain ⟨i0,hi0,hz0,hz1,hz2⟩:=info_parts Tryz.infoWant;rcases hv.2 with ⟨_,h0⟩|⟨g,cap,cur,rfl,hb,hg,hn,hc,hs,ht⟩
 ·omega
 obtain ⟨n,hnn⟩:∃n,l.length=n:=⟨_,rfl⟩;obtain ⟨xs,hxs⟩:∃xs,l.flatMap encW=xs:=⟨_,rfl⟩;have hxl:xs.length=n*5:=by rw [←hxs,wenc_len,hnn]
 have hx1:∀u∈xs,u.oneCell'=true:=by rw [←hxs];exact wenc_one l
 have hEN:xs.take (k*5)++xs.drop ((k+1)*5)=(l.take k++l.drop (k+1)).flatMap encW:=by
  rw [List.flatMap_append,←hxs,wenc_take,wenc_drop]
 have hml:(l.take k++l.drop (k+1)).length=n-1:=by simp;omega
 rw [hnn,hxs] at ht;rw [hnn] at hk hl hn⊢;have HEN:=Lib.hid hEN;have HML:=Lib.hid hml;clear hEN hml hxs hnn hv;have hdl:(xs.drop ((k+1)*5)).length=(n- (k+1))*5:=by rw [List.length_drop,hxl];omega
 have hcells:∀j v,xs[j]? =some v→w.cell? ⟨g,j,none⟩=some v:=row_cells hg (by rw [hxl];exact ht);have s1:Hid ((xs.drop ((k+1)*5)).length=(n- (k+1))*5):=hdl;have s2:Hid (∀u∈xs.drop ((k+1)*5),u.oneCell'=true):=fun u hu=>hx1 u (List.mem_of_mem_drop hu)
 have s3:Hid (∀t,t<(xs.drop ((k+1)*5)).length→(w.drew.cell? ⟨g,0+k*5+t,none⟩).isSome=true∧w.drew.frozen? ⟨g,0+k*5+t,none⟩=false):=by
  intro t ht2;rw [hdl] at ht2;exact ⟨by rw [Lib.cell_of_heap (w:=w.drew) hg,Array.getElem?_eq_getElem (by omega)];rfl,Lib.frozen_of_heap (w:=w.drew) hg _⟩
 obtain ⟨A,hA,hsrc⟩:∃A:Addr,(if cap=k+1 then some (⟨g,0,none⟩:Addr) else some ⟨g,(k+1)*5,none⟩)=some A∧Hid (∀t u,(xs.drop ((k+1)*5))[t]? =some u→w.drew.cell? (A.add t)=some u):=by
  by_cases h:cap=k+1
  ·refine ⟨⟨g,0,none⟩,by simp [h],fun t u hu=>?_⟩;have h0:(xs.drop ((k+1)*5)).length=0:=by rw [hdl];omega
   rw [List.length_eq_zero_iff.1 h0] at hu;simp at hu
  ·refine ⟨⟨g,(k+1)*5,none⟩,by simp [h],fun t u hu=>?_⟩;rw [Addr.add_lit];exact hcells _ u (by rwa [List.getElem?_drop] at hu)
 obtain ⟨c1,hc1⟩:∃c1,splice cur.toList (k*5) (xs.drop ((k+1)*5))=c1:=⟨_,rfl⟩;have hW1:w.drew.setCells g (0+k*5) (xs.drop ((k+1)*5))=w.drew.setRow g c1.toArray:=by
  rw [Nat.zero_add,←hc1];exact setCells_row (w:=w.drew) hg (by rw [hdl,hs];omega) s2.out
 have HW1:=Lib.hid hW1;have hs1:c1.length=cap*5:=by rw [←hc1,splice_len _ _ _ (by rw [hdl,Array.length_toList,hs];omega),Array.length_toList,hs]
 have hg1:(w.drew.setRow g c1.toArray).heap[g]? =some (.cells c1.toArray 134 (0,0)):=setRow_block (w:=w.drew) hg;obtain ⟨c2,hc2⟩:∃c2,splice c1 ((n-1)*5) [Value.string ⟨#[]⟩,.string ⟨#[]⟩,.string ⟨#[]⟩,.int .i64 0,.int .i64 0]=c2:=⟨_,rfl⟩;have hs2:c2.length=cap*5:=by rw [←hc2,splice_len _ _ _ (by show _+5≤_;omega),hs1]
 have hcl:∀ty c,(Builtin.clear_ #[83] ty #[.slice (some ⟨g,(n-1)*5,none⟩) 1 c]).run Tryz.prog (w.drew.setRow g c1.toArray)=.ok (.tuple #[]) ((w.drew.setRow g c1.toArray).setRow g c2.toArray):=fun ty c=>by
  have:=run_clear_want (c:=c) (o:=(n-1)*5) hg1 (by simp [hs1];omega) ty;rw [←hc2];simpa using this
 have HCL:=Lib.hid hcl;have hg2:((w.drew.setRow g c1.toArray).setRow g c2.toArray).heap[g]? =some (.cells c2.toArray 134 (0,0)):=setRow_block hg1;have hbb:Below base w ((w.drew.setRow g c1.toArray).setRow g c2.toArray):=below_setRow (below_setRow ((Below.refl base w).drew) hb _) hb _;have H0:Hid (c2.take ((n-1)*5)=(l.take k++l.drop (k+1)).flatMap encW):=by
  have h:=del_take cur.toList xs [Value.string ⟨#[]⟩,.string ⟨#[]⟩,.string ⟨#[]⟩,.int .i64 0,.int .i64 0] (k*5) ((k+1)*5) (by omega) (by omega) (by have:=Array.length_toList (xs:=cur);show xs.length≤cur.toList.length;omega) (by rw [hxl];exact ht) (by show 5=_;omega);rw [hdl,show k*5+(n- (k+1))*5=(n-1)*5 by omega,hc1,hc2] at h;exact h.trans HEN.out
 have hkc:k≤cap:=by omega
 have hjc:k+1≤cap:=by omega
 have hne:¬(cap=n-1):=by omega
 have hw1:IntKind.i64.wrap ((k:Int)+1)=(k:Int)+1:=by rw [IntKind.wrap_i64];omega
 have hb1:(0:Int)≤(k:Int)+1:=by omega
 have htn:((k:Int)+1).toNat=k+1:=by omega
 have hin:(k:Int)+1≤(n:Int):=by omega
 have hin2:(k:Int)≤(n:Int):=by omega
 have hkk:(k:Int)≤(k:Int)+1:=by omega
 have hkn:¬((k:Int)=(k:Int)+1):=by omega
 rw [maxLen_eq] at hc;clear hcl hW1 hc1 hc2 hdl hcells hx1 hxl ht hg hs;go_enter Tryz.func160,Tryz.ntmps160;go_wp2_with fail;go_region_law (refine step_append_room rfl (.tmp 22) (.tmp 25) 83 rfl 134 i0 5 Tryz.underlying83 hi0 hz1 g 0 k cap (by simp [Act.eval,Act.put]) A (n- (k+1)) (cap- (k+1)) (xs.drop ((k+1)*5)) (by simp [Act.eval,Act.put]) s1.out hsrc.out s2.out (by omega) s3.out ?_;rw [HW1.out]);go_wp2_with fail;rw [show k+(n- (k+1))=n-1 by omega,show n- (n-1)=1 by omega,HCL.out];simp only [Result.andThen_ok];go_wp2_with fail;go_ret;refine ⟨⟨_,rfl,?_⟩,hbb⟩;show World.ownsRow _ _ _ _ _ _ _;rw [HML.out,←H0.out];exact ⟨by rw [List.length_take,hs2];omega,.inr ⟨g,cap,_,rfl,hb,hg2,by omega,by rw [maxLen_eq];omega,by simp [hs2],by simp⟩⟩
end Go.Proofs.YtaabgmbjmfjdjaaGreatDoor
