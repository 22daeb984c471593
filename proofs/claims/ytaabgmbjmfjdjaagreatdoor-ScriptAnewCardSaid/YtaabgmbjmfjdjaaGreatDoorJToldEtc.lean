import Derived.Test.YtaabgmbjmfjdjaaGreatDoorJErrors
import Derived.Test.YtaabgmbjmfjdjaaGreatDoorJPathedEtc
import Derived.Test.YtaabgmbjmfjdjaaGreatDoorJRowedEtc
import Derived.Deep.QuietTactic
import Derived.Deep.RegionHeld3
import Derived.BigQuiet
import Derived.IntWalk
import Derived.Laws.Cover1
namespace Go.Proofs.YtaabgmbjmfjdjaaGreatDoor
open Go Go.RowKit
set_option maxHeartbeats 4000000
set_option maxRecDepth 100000
theorem code_nil (w:World):Calls Tryz.prog 17 #[.nilIface] w fun e w'=>
  e=.returned (.tuple #[.int .i64 0,.int .i64 (-1)])∧w=w':=by
 go_enter Tryz.func17,Tryz.ntmps17
 go_wp2
 go_ret2;exact ⟨rfl,rfl⟩
theorem cells13 (E:Nat→Addr) (w1:World):∀n,n<13→(w1.alloc (Obj.cells #[sentV E 0,sentV E 1,sentV E 2,sentV E 3,sentV E 4,sentV E 5,sentV E 6,sentV E 7,sentV E 8,sentV E 9,sentV E 10,sentV E 11,sentV E 12] 27)).cell? ⟨w1.heap.size,n,none⟩=some (sentV E n):=by
 intro n hn;rw [World.cell?_alloc_at _ _ _ _ rfl]
 match n,hn with
 |0,_|1,_|2,_|3,_|4,_|5,_|6,_|7,_|8,_|9,_|10,_|11,_|12,_=>rfl
 |n+13,h=>omega
theorem code_base {E:Nat→Addr} {w:World} (hE:Env E w) (k:Nat) (hk:k<13):Calls Tryz.prog 17 #[sentV E k] w fun e w'=>
  e=.returned (.tuple #[.int .i64 ((k:Int)+1),.int .i64 (-1)])∧Below w.heap.size w w':=by
 go_enter Tryz.func17,Tryz.ntmps17;go_wp2_with fail;refine (as_miss_below (hE.ext ((Below.refl _ _).alloc (Nat.le_refl _) _)) _ _ (.pointer none) (by go_simp)).mono ?_;rintro ev w1 ⟨rfl,hb⟩;have hb1:Below w.heap.size w w1:=((Below.refl _ _).alloc (Nat.le_refl _) _).trans (hb.mono (by simp));have hE1:=hE.ext hb1;have hz:w.heap.size<w1.heap.size:=by have:=hb.size;simp at this;omega
 have e0:=hE1.eText;have e1:=hE1.eBound;have e2:=hE1.eShape;have e3:=hE1.eKind;have e4:=hE1.eName;have e5:=hE1.eNone;have e6:=hE1.eExist;have e7:=hE1.eFull;have e8:=hE1.eOrder;have e9:=hE1.eOut;have e10:=hE1.eClash;have e11:=hE1.eSum;have e12:=hE1.eOff;clear hb;go_wp2_with fail;have hc:=cells13 E w1;have hbb:Below w.heap.size w (w1.alloc (Obj.cells #[sentV E 0,sentV E 1,sentV E 2,sentV E 3,sentV E 4,sentV E 5,sentV E 6,sentV E 7,sentV E 8,sentV E 9,sentV E 10,sentV E 11,sentV E 12] 27)):=hb1.alloc (by omega) _;have hEE:=hE1.ext ((Below.refl _ w1).alloc (Nat.le_refl _) (Obj.cells #[sentV E 0,sentV E 1,sentV E 2,sentV E 3,sentV E 4,sentV E 5,sentV E 6,sentV E 7,sentV E 8,sentV E 9,sentV E 10,sentV E 11,sentV E 12] 27));clear e0 e1 e2 e3 e4 e5 e6 e7 e8 e9 e10 e11 e12 hE hE1 hb1;generalize w1.alloc (Obj.cells #[sentV E 0,sentV E 1,sentV E 2,sentV E 3,sentV E 4,sentV E 5,sentV E 6,sentV E 7,sentV E 8,sentV E 9,sentV E 10,sentV E 11,sentV E 12] 27)=W at hc hbb hEE⊢;generalize w1.heap.size=B at hc⊢
 go_loop [3,31] (fun z i=>∃n:Nat,n≤k∧i=.int .i64 n∧z=.int .i64 (-1)) (fun _ i=>13- (intOf i).toNat)
 case atStart=>exact ⟨0,Nat.zero_le _,rfl,rfl⟩
 case round=>
  obtain ⟨n,hn,rfl,rfl⟩:=hrel;have hn13:n<13:=by omega
  have hcn:=hc n hn13;have his:=is_any hEE (IsErr.base E W k hk) (by simp) n hn13;have HI:=Lib.hid his;have HC:=Lib.hid hc;clear his hc;by_cases hnk:n=k
  ·subst hnk;go_wp2_with fail;refine HI.out.mono ?_;rintro e w' ⟨rfl,rfl⟩;go_wp2_with fail;go_ret2;exact ⟨by simp,hbb⟩
  ·go_wp2_with fail;refine HI.out.mono ?_;rintro e w' ⟨rfl,rfl⟩;have hd:decide (k+1=n+1)=false:=by simp;omega
   go_wp2_with fail;go_round
   case rel=>exact ⟨n+1,by omega,by go_num,rfl⟩
   case measure=>simp [intOf];omega
theorem code_fault {E:Nat→Addr} {w:World} (hE:Env E w) (k:Nat) (hk:k<13) (a:Int) (b:Nat) (h3:w.cell? ⟨b,0,none⟩=some (.int .i64 a)) (h4:w.cell? ⟨b,1,none⟩=some (sentV E k)):
  Calls Tryz.prog 17 #[.iface 70 (.pointer (some ⟨b,0,none⟩))] w fun e w'=>
  e=.returned (.tuple #[.int .i64 ((k:Int)+1),.int .i64 a])∧Below w.heap.size w w':=by
 go_enter Tryz.func17,Tryz.ntmps17;go_wp2_with fail;refine (as_hit_grown (hE.ext ((Below.refl _ _).alloc (Nat.le_refl _) _)) _ _ (.pointer none) (by go_simp) (by go_simp)).mono ?_;rintro ev w1 ⟨rfl,hp,hg⟩;have hb1:Below w.heap.size w w1:=((Below.refl _ _).alloc (Nat.le_refl _) _).grown hg (by simp) (by rintro _ ⟨⟩;exact Nat.le_refl _);have hE1:=hE.ext hb1;have hz:w.heap.size<w1.heap.size:=by have:=hg.size;simp at this;omega
 have hf0:w1.cell? ⟨b,0,none⟩=some (.int .i64 a):=by rw [hb1.cell (p:=⟨b,0,none⟩) (lt_of_cell h3)];exact h3
 have hf1:w1.cell? ⟨b,1,none⟩=some (sentV E k):=by rw [hb1.cell (p:=⟨b,1,none⟩) (lt_of_cell h4)];exact h4
 have hbl:b<w1.heap.size:=lt_of_cell hf0;have e0:=hE1.eText;have e1:=hE1.eBound;have e2:=hE1.eShape;have e3:=hE1.eKind;have e4:=hE1.eName;have e5:=hE1.eNone;have e6:=hE1.eExist;have e7:=hE1.eFull;have e8:=hE1.eOrder;have e9:=hE1.eOut;have e10:=hE1.eClash;have e11:=hE1.eSum;have e12:=hE1.eOff;clear hg h3 h4;go_wp2_with fail;have hc:=cells13 E w1;have hg0:(w1.alloc (Obj.cells #[sentV E 0,sentV E 1,sentV E 2,sentV E 3,sentV E 4,sentV E 5,sentV E 6,sentV E 7,sentV E 8,sentV E 9,sentV E 10,sentV E 11,sentV E 12] 27)).cell? ⟨b,0,none⟩=some (.int .i64 a):=by rw [World.cell?_alloc_lt _ _ ⟨b,0,none⟩ hbl];exact hf0
 have hg1:(w1.alloc (Obj.cells #[sentV E 0,sentV E 1,sentV E 2,sentV E 3,sentV E 4,sentV E 5,sentV E 6,sentV E 7,sentV E 8,sentV E 9,sentV E 10,sentV E 11,sentV E 12] 27)).cell? ⟨b,1,none⟩=some (sentV E k):=by rw [World.cell?_alloc_lt _ _ ⟨b,1,none⟩ hbl];exact hf1
 have hbb:Below w.heap.size w (w1.alloc (Obj.cells #[sentV E 0,sentV E 1,sentV E 2,sentV E 3,sentV E 4,sentV E 5,sentV E 6,sentV E 7,sentV E 8,sentV E 9,sentV E 10,sentV E 11,sentV E 12] 27)):=hb1.alloc (by omega) _;have hEE:=hE1.ext ((Below.refl _ w1).alloc (Nat.le_refl _) (Obj.cells #[sentV E 0,sentV E 1,sentV E 2,sentV E 3,sentV E 4,sentV E 5,sentV E 6,sentV E 7,sentV E 8,sentV E 9,sentV E 10,sentV E 11,sentV E 12] 27));clear e0 e1 e2 e3 e4 e5 e6 e7 e8 e9 e10 e11 e12 hE hE1 hb1 hf0 hf1 hp;generalize w1.alloc (Obj.cells #[sentV E 0,sentV E 1,sentV E 2,sentV E 3,sentV E 4,sentV E 5,sentV E 6,sentV E 7,sentV E 8,sentV E 9,sentV E 10,sentV E 11,sentV E 12] 27)=W at hc hbb hEE hg0 hg1⊢;generalize w1.heap.size=B at hc⊢
 go_loop [3,31] (fun z i=>∃n:Nat,n≤k∧i=.int .i64 n∧z=.int .i64 a) (fun _ i=>13- (intOf i).toNat)
 case atStart=>exact ⟨0,Nat.zero_le _,rfl,rfl⟩
 case round=>
  obtain ⟨n,hn,rfl,rfl⟩:=hrel;have hn13:n<13:=by omega
  have hcn:=hc n hn13;have his:=is_any hEE (IsErr.fault E W k hk a b hg0 hg1) (by simp) n hn13;have HI:=Lib.hid his;have HC:=Lib.hid hc;clear his hc;by_cases hnk:n=k
  ·subst hnk;go_wp2_with fail;refine HI.out.mono ?_;rintro e w' ⟨rfl,rfl⟩;go_wp2_with fail;go_ret2;exact ⟨by simp,hbb⟩
  ·go_wp2_with fail;refine HI.out.mono ?_;rintro e w' ⟨rfl,rfl⟩;have hd:decide (k+1=n+1)=false:=by simp;omega
   go_wp2_with fail;go_round
   case rel=>exact ⟨n+1,by omega,by go_num,rfl⟩
   case measure=>simp [intOf];omega
theorem code_any {E:Nat→Addr} {w:World} {v:Value} {er:Er} (hE:Env E w) (hv:IsErr E w v er):Calls Tryz.prog 17 #[v] w fun e w'=>
  e=.returned (.tuple #[.int .i64 er.code,.int .i64 (er.at?.getD (-1))])∧Below w.heap.size w w':=by
 rcases hv with ⟨rfl,rfl⟩|⟨k,hk,rfl,rfl⟩|⟨k,a,b,hk,rfl,rfl,h3,h4⟩
 ·exact (code_nil w).mono fun _ _ ⟨h1,h2⟩=>⟨h1,h2▸Below.refl _ _⟩
 ·exact code_base hE k hk
 ·exact code_fault hE k hk a b h3 h4
structure FileB where
 path:ByteArray
 run:Bool
 text:ByteArray
def leqB (a b:List UInt8):Bool:=Op.bytesLess a b||(a==b)
def afterB (ahead:List FileB) (p:List UInt8):Bool:=match ahead.getLast? with|none=>false|some g=>leqB p (bl g.path)
def fileE (ahead:List FileB) (f:FileB):Nat:=
 if partsE (bl f.path)≠0 then partsE (bl f.path)
 else if 4000<f.text.size then 2
 else if afterB ahead (bl f.path)=true then 9
 else if ahead.any (fun g=>inB (bl f.path) (bl g.path))=true then 11
 else 0
def filesE:List FileB→Nat→List FileB→Option (Nat×Nat)
 |_,_,[]=>none
 |ahead,i,f::l=>if fileE ahead f=0 then filesE (ahead++[f]) (i+1) l else some (i,fileE ahead f)
def allText (l:List FileB):Nat:=(l.map (·.text.size)).sum
theorem afterB_some {l:List FileB} {g:FileB} {p:List UInt8} (h:l.getLast? =some g):afterB l p=leqB p (bl g.path):=by unfold afterB;rw [h]
theorem fileE_le (ahead:List FileB) (f:FileB):fileE ahead f≤13:=by
 have h:∀b c:Bool,(if b=true then 9 else if c=true then 11 else 0)≤13:=by decide
 unfold fileE;split
 ·exact partsE_le _
 ·split
  ·decide
  ·exact h _ _
theorem allText_snoc (l:List FileB) (f:FileB):allText (l++[f])=allText l+f.text.size:=by simp [allText]
theorem filesE_step {l:List FileB} {k:Nat} (h:k<l.length):filesE (l.take k) k (l.drop k)=if fileE (l.take k) l[k]=0 then filesE (l.take (k+1)) (k+1) (l.drop (k+1)) else some (k,fileE (l.take k) l[k]):=by
 rw [List.drop_eq_getElem_cons h,filesE,List.take_add_one,List.getElem?_eq_getElem h];rfl
abbrev encFile (f:FileB):List Value:=[.string f.path,.bool f.run,.string f.text]
def FRow (w:World) (v:Value) (l:List FileB):Prop:=
 ∃ao cap,v=.slice ao l.length cap∧l.length≤cap∧cap≤maxLen∧(∀i,i<l.length→∃b off,ao=some ⟨b,off,none⟩∧b<w.heap.size∧
  ∀k,(hk:k<l.length)→w.cell? ⟨b,off+k*3,none⟩=some (.string l[k].path)∧w.cell? ⟨b,off+k*3+1,none⟩=some (.bool l[k].run)∧w.cell? ⟨b,off+k*3+2,none⟩=some (.string l[k].text))
theorem FRow.ext {w w':World} {v:Value} {l:List FileB} (h:FRow w v l) (hb:Below w.heap.size w w'):FRow w' v l:=by
 obtain ⟨ao,cap,h1,h2,h3,h4⟩:=h;refine ⟨ao,cap,h1,h2,h3,fun i hi=>?_⟩;obtain ⟨b,off,e,hbl,hc⟩:=h4 i hi;refine ⟨b,off,e,Nat.lt_of_lt_of_le hbl hb.size,fun k hk=>?_⟩;obtain ⟨q0,q1,q2⟩:=hc k hk;exact ⟨by rw [hb.cell (p:=⟨b,off+k*3,none⟩) hbl];exact q0,by rw [hb.cell (p:=⟨b,off+k*3+1,none⟩) hbl];exact q1,by rw [hb.cell (p:=⟨b,off+k*3+2,none⟩) hbl];exact q2⟩
theorem FRow.take {w:World} {b off n cap:Nat} {l:List FileB} (h:∀k,(hk:k<l.length)→w.cell? ⟨b,off+k*3,none⟩=some (.string l[k].path)∧w.cell? ⟨b,off+k*3+1,none⟩=some (.bool l[k].run)∧w.cell? ⟨b,off+k*3+2,none⟩=some (.string l[k].text))
  (hb:b<w.heap.size) (hn:n≤l.length) (hc:n≤cap) (hm:cap≤maxLen):FRow w (.slice (some ⟨b,off,none⟩) n cap) (l.take n):=by
 have hl:(l.take n).length=n:=by rw [List.length_take];omega
 refine ⟨some ⟨b,off,none⟩,cap,by rw [hl],by rw [hl];exact hc,hm,fun i hi=>⟨b,off,rfl,hb,fun k hk=>?_⟩⟩;rw [hl] at hk;have:=h k (by omega);rw [List.getElem_take];exact this
def SmallF (f:FileB):Prop:=f.path.size≤30000∧f.text.size≤100000
theorem clash1_any {E:Nat→Addr} (g:FileB) (s:ByteArray) (pb:Nat) (w:World) (hp:w.cell? ⟨pb,0,none⟩=some (.string s)) (hs:s.size≤100000) (hg:g.path.size≤100000) (hE:PEnv E w):
  Calls Tryz.prog 188 #[.agg #[.string g.path,.bool g.run,.string g.text],.pointer (some ⟨pb,0,none⟩)] w fun e w'=>e=.returned (.bool (inB (bl s) (bl g.path)))∧Below w.heap.size w w':=by
 have hal:Below w.heap.size w (w.alloc (.cells #[.string g.path,.bool g.run,.string g.text] 170)):=(Below.refl _ _).alloc (Nat.le_refl _) _;have C:=Lib.hid (pathIn_any s g.path _ hs hg (hE.ext hal));have hpl:=World.block_lt_of_cell? _ _ hp;have HA:=Lib.hid hal;clear hE hal;go_enter Tryz.func188,Tryz.ntmps188;go_wp2_with fail;refine C.out.mono ?_;rintro e w' ⟨rfl,hb⟩;go_wp2_with fail;go_ret;exact ⟨rfl,HA.out.trans (hb.mono HA.out.size)⟩
theorem indexFiles_any {E:Nat→Addr} (v:Value) (l:List FileB) (s:ByteArray) (pb:Nat) (w:World) (hv:FRow w v l) (hl:l.length≤100000) (hS:∀f∈l,SmallF f) (hp:w.cell? ⟨pb,0,none⟩=some (.string s)) (hs:s.size≤100000) (hE:PEnv E w):
  Calls Tryz.prog 220 #[v,.func (.func 188) #[] #[.pointer (some ⟨pb,0,none⟩)]] w fun e w'=>
   (∃n:Int,e=.returned (.int .i64 n)∧Hid (decide (0≤n)=l.any (fun g=>inB (bl s) (bl g.path))))∧Below w.heap.size w w':=by
 obtain ⟨ao,cap,rfl,h1,h2,H3⟩:=hv;have HM:=Lib.hid H3;have HSM:=Lib.hid hS;have HE:=Lib.hid hE;have HP:=Lib.hid hp;have HPL:=Lib.hid (World.block_lt_of_cell? _ _ hp);clear H3 hS hE hp;go_enter Tryz.func220,Tryz.ntmps220;go_wp2_with fail;go_loopw [5,8] (fun _ i wr=>∃k:Nat,k≤l.length∧i=.int .i64 k∧Hid ((l.take k).any (fun g=>inB (bl s) (bl g.path))=false)∧Below w.heap.size w wr) (fun _ i _=>l.length- (intOf i).toNat)
 case atStart=>exact ⟨0,Nat.zero_le _,rfl,rfl,Below.refl _ _⟩
 case round=>
  obtain ⟨k,hk,rfl,HA,hb⟩:=hrel;by_cases hlt:k<l.length
  ·obtain ⟨b,off,rfl,hbl,hcell⟩:=HM.out k hlt;obtain ⟨q0,q1,q2⟩:=hcell k hlt;rw [←hb.cell (p:=⟨b,off+k*3,none⟩) hbl] at q0;rw [←hb.cell (p:=⟨b,off+k*3+1,none⟩) hbl] at q1;rw [←hb.cell (p:=⟨b,off+k*3+2,none⟩) hbl] at q2;have sz:=(HSM.out l[k] (List.getElem_mem hlt)).1;have HT:Hid ((l.take (k+1)).any (fun g=>inB (bl s) (bl g.path))=inB (bl s) (bl l[k].path)):=by
    show _=_;rw [List.take_add_one,List.getElem?_eq_getElem hlt,List.any_append,HA.out];simp
   have HAN:Hid (inB (bl s) (bl l[k].path)=true→l.any (fun g=>inB (bl s) (bl g.path))=true):=fun h=>List.any_eq_true.2 ⟨l[k],List.getElem_mem hlt,h⟩
   clear hcell;generalize l[k]=g at q0 q1 q2 sz HT HAN;have hpr:wr.cell? ⟨pb,0,none⟩=some (.string s):=by rw [hb.cell (p:=⟨pb,0,none⟩) HPL.out];exact HP.out
   have C:=Lib.hid (clash1_any g s pb wr hpr hs (by omega) (HE.out.ext hb));clear hpr sz;go_wp2_with fail;refine C.out.mono ?_;clear C;rintro e w2 ⟨rfl,hb2⟩;have hb3:=hb.trans (hb2.mono hb.size);obtain ⟨r,hr⟩:∃r,inB (bl s) (bl g.path)=r:=⟨_,rfl⟩;rw [hr] at HT HAN⊢;clear hr
   cases r with
   |true=>
    have HF:=HAN.out rfl;have HFF:Hid (decide ((0:Int)≤(k:Int))=l.any (fun g=>inB (bl s) (bl g.path))):=by show _=_;rw [HF,decide_eq_true_iff];omega
    clear HF HT HAN HA;go_wp2_with fail;go_ret;exact ⟨⟨_,rfl,HFF⟩,hb3⟩
   |false=>
    clear HAN HA;go_wp2_with fail;go_roundw
    case rel=>exact ⟨k+1,by omega,by go_num,HT,hb3⟩
    case measure=>simp [intOf];omega
  ·obtain rfl:k=l.length:=by omega
   have HF:Hid (decide ((0:Int)≤(-1:Int))=l.any (fun g=>inB (bl s) (bl g.path))):=by
    show _=_;have:=HA.out;rw [List.take_length] at this;rw [this];decide
   clear HA;go_wp2_with fail;go_ret;exact ⟨⟨_,rfl,HF⟩,hb⟩
theorem containsFiles_any {E:Nat→Addr} (v:Value) (l:List FileB) (s:ByteArray) (pb:Nat) (w:World) (hv:FRow w v l) (hl:l.length≤100000) (hS:∀f∈l,SmallF f) (hp:w.cell? ⟨pb,0,none⟩=some (.string s)) (hs:s.size≤100000) (hE:PEnv E w):
  Calls Tryz.prog 187 #[v,.func (.func 188) #[] #[.pointer (some ⟨pb,0,none⟩)]] w fun e w'=>
   e=.returned (.bool (l.any (fun g=>inB (bl s) (bl g.path))))∧Below w.heap.size w w':=by
 have C:=Lib.hid (indexFiles_any v l s pb w hv hl hS hp hs hE);obtain ⟨ao,cap,rfl,_⟩:=hv;obtain ⟨r,hr⟩:∃r,l.any (fun g=>inB (bl s) (bl g.path))=r:=⟨_,rfl⟩;rw [hr] at C⊢;clear hr hE hS hp;go_enter Tryz.func187,Tryz.ntmps187;go_wp2_with fail;refine C.out.mono ?_;clear C;rintro e w' ⟨⟨n,rfl,H⟩,hb⟩;go_wp2_with fail;go_ret;exact ⟨by first|rfl|(rw [H.out];rfl),hb⟩
theorem clash_any {E:Nat→Addr} (v:Value) (l:List FileB) (s:ByteArray) (w:World) (hv:FRow w v l) (hl:l.length≤100000) (hS:∀f∈l,SmallF f) (hs:s.size≤100000) (hE:PEnv E w):
  Calls Tryz.prog 150 #[v,.string s] w fun e w'=>e=.returned (.bool (l.any (fun g=>inB (bl s) (bl g.path))))∧Below w.heap.size w w':=by
 have hal:Below w.heap.size w (w.alloc (.cells #[.string s] 9)):=(Below.refl _ _).alloc (Nat.le_refl _) _;have hp:(w.alloc (.cells #[.string s] 9)).cell? ⟨w.heap.size,0,none⟩=some (.string s):=by rw [World.cell?_alloc_at _ _ _ _ rfl];rfl
 have C:=Lib.hid (containsFiles_any v l s w.heap.size _ (hv.ext hal) hl hS hp hs (hE.ext hal));obtain ⟨ao,cap,rfl,_⟩:=hv;have HA:=Lib.hid hal;clear hal hp hE hS;go_enter Tryz.func150,Tryz.ntmps150;go_wp2_with fail;refine C.out.mono ?_;clear C;rintro e w' ⟨rfl,hb⟩;go_wp2_with fail;go_ret;exact ⟨rfl,HA.out.trans (hb.mono HA.out.size)⟩
def treeEr (l:List FileB):Er:=
 if 30<l.length then ⟨8,none⟩ else match filesE [] 0 l with
  |some p=>⟨p.2,some (p.1:Int)⟩
  |none=>if 12000<allText l then ⟨2,none⟩ else ⟨0,none⟩
def TreePost (E:Nat→Addr) (l:List FileB) (w:World) (e:Ending) (w':World):Prop:=
 (∃ev,e=.returned ev∧Hid (IsErr E w' ev (treeEr l)))∧Below w.heap.size w w'
def FEnv (E:Nat→Addr) (w:World):Prop:=Env E w∧PEnv E w
theorem FEnv.ext {E:Nat→Addr} {w w':World} (h:FEnv E w) (hb:Below w.heap.size w w'):FEnv E w':=⟨h.1.ext hb,h.2.ext hb⟩
theorem treeEr_at {l:List FileB} {k c:Nat} (h30:l.length≤30) (hk:k<l.length) (hF:filesE [] 0 l=filesE (l.take k) k (l.drop k)) (hc:fileE (l.take k) l[k]=c+1):treeEr l=⟨c+1,some (k:Int)⟩:=by
 have:filesE [] 0 l=some (k,c+1):=by rw [hF,filesE_step hk,if_neg (by omega),hc]
 unfold treeEr;rw [if_neg (by omega),this]
theorem treeEr_end {l:List FileB} (h30:l.length≤30) (hF:filesE [] 0 l=filesE (l.take l.length) l.length (l.drop l.length)):treeEr l=if 12000<allText l then ⟨2,none⟩ else ⟨0,none⟩:=by
 have:filesE [] 0 l=none:=by rw [hF,List.drop_length];rfl
 unfold treeEr;rw [if_neg (by omega),this]
theorem take_last {l:List FileB} {k:Nat} (h0:0<k) (hk:k≤l.length):(l.take k).getLast? =some (l[k-1]'(by omega)):=by
 rw [List.getLast?_eq_getElem?,List.length_take,Nat.min_eq_left hk,List.getElem?_take_of_lt (by omega),List.getElem?_eq_getElem (by omega)]
theorem treeCheck_any {E:Nat→Addr} (v:Value) (l:List FileB) (w:World) (hv:FRow w v l) (hl:l.length≤10000) (hS:∀f∈l,SmallF f) (hE:FEnv E w):
  Calls Tryz.prog 112 #[v] w (TreePost E l w):=by
 obtain ⟨ao,cap,rfl,h1,h2,H3⟩:=hv;have HM:=Lib.hid H3;have HSM:=Lib.hid hS;have HE:=Lib.hid hE;clear H3 hS hE;go_enter Tryz.func112,Tryz.ntmps112;by_cases h30:l.length≤30
 ·go_wp2_with fail;go_loopw [3,13] (fun sv i wr=>∃k:Nat,k≤l.length∧i=.int .i64 k∧sv=.int .i64 (allText (l.take k):Nat)∧allText (l.take k)≤100000*k∧Hid (filesE [] 0 l=filesE (l.take k) k (l.drop k))∧Below w.heap.size w wr) (fun _ i _=>l.length- (intOf i).toNat)
  case atStart=>exact ⟨0,Nat.zero_le _,rfl,rfl,Nat.zero_le _,rfl,Below.refl _ _⟩
  case round=>
   obtain ⟨k,hk,rfl,rfl,hall,HF,hb⟩:=hrel;by_cases hlt:k<l.length
   ·obtain ⟨b,off,rfl,hbl,hcell⟩:=HM.out k hlt;have HCE:=Lib.hid hcell;obtain ⟨q0,q1,q2⟩:=hcell k hlt;rw [←hb.cell (p:=⟨b,off+k*3,none⟩) hbl] at q0;rw [←hb.cell (p:=⟨b,off+k*3+1,none⟩) hbl] at q1;rw [←hb.cell (p:=⟨b,off+k*3+2,none⟩) hbl] at q2;have sz:=HSM.out l[k] (List.getElem_mem hlt);have HTK:Hid (l.take (k+1)=l.take k++[l[k]]):=by show _=_;rw [List.take_add_one,List.getElem?_eq_getElem hlt];rfl
    have HAT:=Lib.hid (fun c=>treeEr_at (c:=c) h30 hlt HF.out);have HST:=Lib.hid (filesE_step hlt);clear hcell;obtain ⟨f,hf⟩:∃f,l[k]=f:=⟨_,rfl⟩;rw [hf] at q0 q1 q2 sz HTK HAT HST;clear hf;obtain ⟨pf,hpf⟩:∃pf,wr.heap.size=pf:=⟨_,rfl⟩;obtain ⟨wa,hwa⟩:∃wa,wr.alloc (.cells #[.string f.path,.bool f.run,.string f.text] 170)=wa:=⟨_,rfl⟩;have hal:Below wr.heap.size wr wa:=by rw [←hwa];exact (Below.refl _ _).alloc (Nat.le_refl _) _
    have hA:wa.heap[pf]? =some (.cells #[.string f.path,.bool f.run,.string f.text] 170 (0,0)):=by rw [←hwa,←hpf];exact heap_alloc_new _ _
    have hba:=hb.trans (hal.mono hb.size);have hpfl:pf<wa.heap.size:=(Array.getElem?_eq_some_iff.1 hA).1;have a0:wa.cell? ⟨pf,0,none⟩=some (.string f.path):=by rw [Lib.cell_of_heap hA];rfl
    have a2:wa.cell? ⟨pf,2,none⟩=some (.string f.text):=by rw [Lib.cell_of_heap hA];rfl
    have HPF:=Lib.hid hpf;have HWA:=Lib.hid hwa;have C:=Lib.hid (pathCheck_any f.path wa (by have:=sz.1;omega) (HE.out.ext hba).2);clear hal hA hpf hwa hb;go_wp2_with fail;rw [HWA.out,HPF.out];refine C.out.mono ?_;clear C;rintro e w1 ⟨rfl,hb1⟩;have hb01:=hba.trans (hb1.mono hba.size);rw [←hb1.cell (p:=⟨pf,0,none⟩) hpfl] at a0;rw [←hb1.cell (p:=⟨pf,2,none⟩) hpfl] at a2;have hpf1:pf<w1.heap.size:=Nat.lt_of_lt_of_le hpfl hb1.size;clear q0 q1 q2 hb1 hba hpfl;obtain ⟨c,hc⟩:∃c,partsE (bl f.path)=c:=⟨_,rfl⟩;rw [hc];have hle:=partsE_le (bl f.path);rw [hc] at hle;have HC:=Lib.hid hc;clear hc
    cases c with
    |succ c=>
     have HY:=Lib.hid (HAT.out c (by unfold fileE;rw [if_pos (by rw [HC.out];omega),HC.out]));rw [show errV E (c+1)=sentV E c from rfl];clear HAT HST HC HF;go_wp2_with fail;go_ret;refine ⟨⟨_,rfl,?_⟩,hb01.alloc hb01.size _⟩;show IsErr _ _ _ _;rw [HY.out];exact IsErr.fault E _ (c) (by omega) _ _ (by rw [World.cell?_alloc_at _ _ _ _ rfl];rfl) (by rw [World.cell?_alloc_at _ _ _ _ rfl];rfl)
    |zero=>
     rw [show errV E 0=.nilIface from rfl];by_cases ht:4000<f.text.size
     ·have HY:=Lib.hid (HAT.out 1 (by unfold fileE;rw [if_neg (by rw [HC.out];simp),if_pos ht]));have e1:w1.cell? ⟨0,0,none⟩=some (sentV E 1):=(HE.out.ext hb01).1.err 1 (by decide);clear HAT HST HC HF;go_wp2_with fail;go_ret;refine ⟨⟨_,rfl,?_⟩,hb01.alloc hb01.size _⟩;show IsErr _ _ _ _;rw [HY.out];exact IsErr.fault E _ (1) (by omega) _ _ (by rw [World.cell?_alloc_at _ _ _ _ rfl];rfl) (by rw [World.cell?_alloc_at _ _ _ _ rfl];rfl)
     ·by_cases hk0:k=0
      ·have hkz:k≤0:=by omega
       have HL:Hid (afterB (l.take k) (bl f.path)=false):=by show _=_;rw [hk0];rfl
       have hd0:decide (0<k)=false:=decide_eq_false (by omega);clear hk0;go_wp2_with fail;go_quiet (fail);clear hd0 hkz;have hbq:Below w.heap.size w (w1.drewN nq):=hb01.trans (below_drewN _ _ _);obtain ⟨wq,hwq⟩:∃wq,w1.drewN nq=wq:=⟨_,rfl⟩;rw [hwq] at hbq⊢;have z0:wq.cell? ⟨pf,0,none⟩=some (.string f.path):=by rw [←hwq];exact a0
       have z2:wq.cell? ⟨pf,2,none⟩=some (.string f.text):=by rw [←hwq];exact a2
       have hpfq:pf<wq.heap.size:=by rw [←hwq];exact hpf1
       clear hwq a0 a2 hpf1 hb01;have C:=clash_any (.slice (some ⟨b,off,none⟩) k cap) (l.take k) f.path wq.drew (FRow.take (fun j hj=>by obtain ⟨x0,x1,x2⟩:=HCE.out j hj;have hbd:=hbq.trans (below_drewN _ _ 1);exact ⟨(hbd.cell (p:=⟨b,off+j*3,none⟩) hbl).trans x0,(hbd.cell (p:=⟨b,off+j*3+1,none⟩) hbl).trans x1,(hbd.cell (p:=⟨b,off+j*3+2,none⟩) hbl).trans x2⟩) (Nat.lt_of_lt_of_le hbl hbq.size) (by omega) (by omega) h2) (by rw [List.length_take];omega) (fun x hx=>HSM.out x (List.mem_of_mem_take hx)) (by have:=sz.1;omega) (HE.out.ext (hbq.trans (below_drewN _ _ 1))).2;have hkc:(k:Int)≤(cap:Int):=by omega
       have hk00:(0:Int)≤(k:Int):=by omega
       obtain ⟨an,han⟩:∃an,(l.take k).any (fun g=>inB (bl f.path) (bl g.path))=an:=⟨_,rfl⟩;rw [han] at C;have HC2:=Lib.hid C;have HAN:=Lib.hid han;clear C han;go_wp2_with fail;go_region_held3 (fun W:World=>W.cell? ⟨pf,0,none⟩=some (.string f.path)) (first|exact y0|exact z0)
        (first
         |(go_at_call 150;refine HC2.out.mono ?_;rintro e w3 ⟨rfl,hb3⟩;have y0:=(hb3.cell (p:=⟨pf,0,none⟩) hpfq).trans z0;have y2:=(hb3.cell (p:=⟨pf,2,none⟩) hpfq).trans z2))
       have hb33:=(hbq.trans (below_drewN _ _ 1)).trans (hb3.mono hbq.size);clear HC2 z0 z2 hb3
       cases an with
       |true=>
        have HY:=Lib.hid (HAT.out 10 (by unfold fileE;rw [if_neg (by rw [HC.out];simp),if_neg ht,HL.out,if_neg (by simp),if_pos HAN.out]));have e1:w3.cell? ⟨10,0,none⟩=some (sentV E 10):=(HE.out.ext hb33).1.err 10 (by decide);clear HAT HST HC HF HL HAN;go_wp2_with fail;go_ret;refine ⟨⟨_,rfl,?_⟩,hb33.alloc hb33.size _⟩;show IsErr _ _ _ _;rw [HY.out];exact IsErr.fault E _ (10) (by omega) _ _ (by rw [World.cell?_alloc_at _ _ _ _ rfl];rfl) (by rw [World.cell?_alloc_at _ _ _ _ rfl];rfl)
       |false=>
        have h0:fileE (l.take k) f=0:=by unfold fileE;rw [if_neg (by rw [HC.out];simp),if_neg ht,HL.out,if_neg (by simp),if_neg (by rw [HAN.out];simp)]
        have HF2:Hid (filesE [] 0 l=filesE (l.take (k+1)) (k+1) (l.drop (k+1))):=by
         show _=_;rw [HF.out,HST.out,if_pos h0]
        have HAL:Hid (allText (l.take (k+1))=allText (l.take k)+f.text.size):=by show _=_;rw [HTK.out,allText_snoc]
        have hts:f.text.size≤4000:=by omega
        clear HAT HST HC HF HL HAN h0;go_wp2_with fail;go_roundw
        case rel=>exact ⟨k+1,by omega,by go_num,by rw [HAL.out];go_num,by rw [HAL.out];omega,HF2,hb33⟩
        case measure=>simp [intOf];omega
      ·have hlast:=take_last (l:=l) (k:=k) (by omega) hk;have hq:=(HCE.out (k-1) (by omega)).1;have p0:=(hb01.cell (p:=⟨b,off+(k-1)*3,none⟩) hbl).trans hq;obtain ⟨g,hg⟩:∃g,l[k-1]'(by omega)=g:=⟨_,rfl⟩;rw [hg] at hlast p0;clear hq hg;have hwr:IntKind.i64.wrap ((k:Int)-1)=((k-1:Nat):Int):=by rw [IntWalk.i64_in _ (by omega)];omega
       have hd0:decide (0<k)=true:=decide_eq_true (by omega);have hkl:((k-1:Nat):Int)<(l.length:Int):=by omega
       go_wp2_with fail;go_quiet (fail);clear hwr hkl hd0 p0;obtain ⟨lq,hlq⟩:∃lq,(Op.bytesLess f.path.toList g.path.toList||f.path.toList==g.path.toList)=lq:=⟨_,rfl⟩;rw [hlq];have HL:Hid (afterB (l.take k) (bl f.path)=lq):=by
        show _=_;rw [afterB_some hlast,←hlq];unfold leqB;rw [toList_bl,toList_bl]
       clear hlq hlast
       cases lq with
       |true=>
        have HY:=Lib.hid (HAT.out 8 (by unfold fileE;rw [if_neg (by rw [HC.out];simp),if_neg ht,HL.out,if_pos rfl]));have hbq:Below w.heap.size w (w1.drewN nq):=hb01.trans (below_drewN _ _ _);obtain ⟨wq,hwq⟩:∃wq,w1.drewN nq=wq:=⟨_,rfl⟩;rw [hwq] at hbq⊢;have z0:wq.cell? ⟨pf,0,none⟩=some (.string f.path):=by rw [←hwq];exact a0
        have z2:wq.cell? ⟨pf,2,none⟩=some (.string f.text):=by rw [←hwq];exact a2
        have hpfq:pf<wq.heap.size:=by rw [←hwq];exact hpf1
        clear hwq a0 a2 hpf1 hb01;have e1:wq.cell? ⟨8,0,none⟩=some (sentV E 8):=(HE.out.ext hbq).1.err 8 (by decide);clear HAT HST HC HF HL z0 z2;go_wp2_with fail;go_ret;refine ⟨⟨_,rfl,?_⟩,hbq.alloc hbq.size _⟩;show IsErr _ _ _ _;rw [HY.out];exact IsErr.fault E _ (8) (by omega) _ _ (by rw [World.cell?_alloc_at _ _ _ _ rfl];rfl) (by rw [World.cell?_alloc_at _ _ _ _ rfl];rfl)
       |false=>
        have hbq:Below w.heap.size w (w1.drewN nq):=hb01.trans (below_drewN _ _ _);obtain ⟨wq,hwq⟩:∃wq,w1.drewN nq=wq:=⟨_,rfl⟩;rw [hwq] at hbq⊢;have z0:wq.cell? ⟨pf,0,none⟩=some (.string f.path):=by rw [←hwq];exact a0
        have z2:wq.cell? ⟨pf,2,none⟩=some (.string f.text):=by rw [←hwq];exact a2
        have hpfq:pf<wq.heap.size:=by rw [←hwq];exact hpf1
        clear hwq a0 a2 hpf1 hb01;have C:=clash_any (.slice (some ⟨b,off,none⟩) k cap) (l.take k) f.path wq.drew (FRow.take (fun j hj=>by obtain ⟨x0,x1,x2⟩:=HCE.out j hj;have hbd:=hbq.trans (below_drewN _ _ 1);exact ⟨(hbd.cell (p:=⟨b,off+j*3,none⟩) hbl).trans x0,(hbd.cell (p:=⟨b,off+j*3+1,none⟩) hbl).trans x1,(hbd.cell (p:=⟨b,off+j*3+2,none⟩) hbl).trans x2⟩) (Nat.lt_of_lt_of_le hbl hbq.size) (by omega) (by omega) h2) (by rw [List.length_take];omega) (fun x hx=>HSM.out x (List.mem_of_mem_take hx)) (by have:=sz.1;omega) (HE.out.ext (hbq.trans (below_drewN _ _ 1))).2;have hkc:(k:Int)≤(cap:Int):=by omega
        have hk00:(0:Int)≤(k:Int):=by omega
        obtain ⟨an,han⟩:∃an,(l.take k).any (fun g=>inB (bl f.path) (bl g.path))=an:=⟨_,rfl⟩;rw [han] at C;have HC2:=Lib.hid C;have HAN:=Lib.hid han;clear C han;go_wp2_with fail;go_region_held3 (fun W:World=>W.cell? ⟨pf,0,none⟩=some (.string f.path)) (first|exact y0|exact z0)
         (first
          |(go_at_call 150;refine HC2.out.mono ?_;rintro e w3 ⟨rfl,hb3⟩;have y0:=(hb3.cell (p:=⟨pf,0,none⟩) hpfq).trans z0;have y2:=(hb3.cell (p:=⟨pf,2,none⟩) hpfq).trans z2))
        have hb33:=(hbq.trans (below_drewN _ _ 1)).trans (hb3.mono hbq.size);clear HC2 z0 z2 hb3
        cases an with
        |true=>
         have HY:=Lib.hid (HAT.out 10 (by unfold fileE;rw [if_neg (by rw [HC.out];simp),if_neg ht,HL.out,if_neg (by simp),if_pos HAN.out]));have e1:w3.cell? ⟨10,0,none⟩=some (sentV E 10):=(HE.out.ext hb33).1.err 10 (by decide);clear HAT HST HC HF HL HAN;go_wp2_with fail;go_ret;refine ⟨⟨_,rfl,?_⟩,hb33.alloc hb33.size _⟩;show IsErr _ _ _ _;rw [HY.out];exact IsErr.fault E _ (10) (by omega) _ _ (by rw [World.cell?_alloc_at _ _ _ _ rfl];rfl) (by rw [World.cell?_alloc_at _ _ _ _ rfl];rfl)
        |false=>
         have h0:fileE (l.take k) f=0:=by unfold fileE;rw [if_neg (by rw [HC.out];simp),if_neg ht,HL.out,if_neg (by simp),if_neg (by rw [HAN.out];simp)]
         have HF2:Hid (filesE [] 0 l=filesE (l.take (k+1)) (k+1) (l.drop (k+1))):=by
          show _=_;rw [HF.out,HST.out,if_pos h0]
         have HAL:Hid (allText (l.take (k+1))=allText (l.take k)+f.text.size):=by show _=_;rw [HTK.out,allText_snoc]
         have hts:f.text.size≤4000:=by omega
         clear HAT HST HC HF HL HAN h0;go_wp2_with fail;go_roundw
         case rel=>exact ⟨k+1,by omega,by go_num,by rw [HAL.out];go_num,by rw [HAL.out];omega,HF2,hb33⟩
         case measure=>simp [intOf];omega
   ·obtain rfl:k=l.length:=by omega
    have HT:=Lib.hid (treeEr_end h30 HF.out);rw [List.take_length] at hall⊢;clear HF;by_cases hall2:12000<allText l
    ·have HX:Hid (treeEr l=⟨1+1,none⟩):=by show _=_;rw [HT.out,if_pos hall2]
     have e1:wr.cell? ⟨0,0,none⟩=some (sentV E 1):=(HE.out.ext hb).1.err 1 (by decide);clear HT;go_wp2_with fail;go_ret;exact ⟨⟨_,rfl,by show IsErr _ _ _ _;rw [HX.out];exact IsErr.base E _ 1 (by decide)⟩,hb⟩
    ·have HX:Hid (treeEr l=⟨0,none⟩):=by show _=_;rw [HT.out,if_neg hall2]
     clear HT;go_wp2_with fail;go_ret;exact ⟨⟨_,rfl,by show IsErr _ _ _ _;rw [HX.out];exact IsErr.nil E _⟩,hb⟩
 ·have HX:Hid (treeEr l=⟨7+1,none⟩):=by show _=_;unfold treeEr;rw [if_pos (by omega)]
  have e1:w.cell? ⟨7,0,none⟩=some (sentV E 7):=HE.out.1.err 7 (by decide);go_wp2_with fail;go_ret;exact ⟨⟨_,rfl,by show IsErr _ _ _ _;rw [HX.out];exact IsErr.base E _ 7 (by decide)⟩,Below.refl _ _⟩
def erA (er:Er):Array Value:=#[.int .i64 er.code,.int .i64 (er.at?.getD (-1))]
end Go.Proofs.YtaabgmbjmfjdjaaGreatDoor
