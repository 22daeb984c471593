import Derived.Test.YtaabgmbjmfjdjaaGreatDoorJPlainly
import Derived.Test.YtaabgmbjmfjdjaaGreatDoorJMirrorPlainEtc
import Derived.Test.YtaabgmbjmfjdjaaGreatDoorJRefLinkUp
import Derived.Test.YtaabgmbjmfjdjaaGreatDoorJRowedEtc
import Derived.Test.YtaabgmbjmfjdjaaGreatDoorJParsedEtc
import Derived.Test.YtaabgmbjmfjdjaaGreatDoorJRanged
import Derived.Laws.AppendOwn
namespace Go.Proofs.YtaabgmbjmfjdjaaGreatDoor
open Go Go.RowKit
set_option maxHeartbeats 4000000
set_option maxRecDepth 100000
structure SiteB where
 url:ByteArray
 text:ByteArray
 cut:Int
structure NetB where
 sites:List SiteB
 off:List ByteArray
 calls:Nat
def siteAt (u:ByteArray):List SiteB→Option SiteB
 | []=>none
 |x::l=>if x.url=u then some x else siteAt u l
def setSite (u s:ByteArray) (c:Int):List SiteB→List SiteB
 | []=>[]
 |x::l=>if x.url=u then ⟨x.url,s,c⟩::l else x::setSite u s c l
def setCut (u:ByteArray) (c:Int):List SiteB→List SiteB
 | []=>[]
 |x::l=>if x.url=u then ⟨x.url,x.text,c⟩::l else x::setCut u c l
def putN (n:NetB) (u s:ByteArray):Nat×NetB:=
 if linkE (bl u)≠0 then (linkE (bl u),n)
 else if 20000<s.size then (2,n)
 else match siteAt u n.sites with
  |some _=>(0,{n with sites:=setSite u s (-1) n.sites})
  |none=>if 60≤n.sites.length then (8,n) else (0,{n with sites:=n.sites++[⟨u,s,-1⟩]})
def hostN (n:NetB) (h:ByteArray) (on:Bool):Nat×NetB:=
 if partB (bl h) then (0,{n with off:=n.off.filter (fun x=>x≠h)++(if on then [] else [h])}) else (5,n)
def cutN (n:NetB) (u:ByteArray) (k:Int):Nat×NetB:=
 match siteAt u n.sites with
 |none=>(6,n)
 |some _=>if k<0 then (2,n) else (0,{n with sites:=setCut u k n.sites})
def cutText (s:ByteArray) (c:Int):List UInt8:=if 0≤c∧c<s.size then (bl s).take c.toNat else bl s
def getN (n:NetB) (u:ByteArray):List UInt8×Nat×NetB:=
 if linkE (bl u)≠0 then ([],linkE (bl u),n)
 else if (n.off.map bl).contains (lkH (bl u)) then ([],13,{n with calls:=n.calls+1})
 else match siteAt u n.sites with
  |none=>([],6,{n with calls:=n.calls+1})
  |some x=>(cutText x.text x.cut,0,{n with calls:=n.calls+1})
theorem siteAt_none {u:ByteArray}:∀{l:List SiteB},siteAt u l=none↔∀x∈l,x.url≠u
 | []=>by simp [siteAt]
 |x::l=>by
  unfold siteAt;split
  ·rename_i h;simp [h]
  ·rename_i h;rw [siteAt_none];simp [h]
theorem siteAt_url {u:ByteArray}:∀{l:List SiteB} {x:SiteB},siteAt u l=some x→x.url=u∧x∈l
 | [],x,h=>by cases h
 |y::l,x,h=>by
  unfold siteAt at h;split at h
  ·rename_i hy;cases h;exact ⟨hy,by simp⟩
  ·obtain ⟨h1,h2⟩:=siteAt_url h;exact ⟨h1,by simp [h2]⟩
theorem setSite_map (u s:ByteArray) (c:Int):∀l:List SiteB,(setSite u s c l).map (·.url)=l.map (·.url)
 | []=>rfl
 |x::l=>by unfold setSite;split<;>simp [setSite_map]
theorem setCut_map (u:ByteArray) (c:Int):∀l:List SiteB,(setCut u c l).map (·.url)=l.map (·.url)
 | []=>rfl
 |x::l=>by unfold setCut;split<;>simp [setCut_map]
theorem siteAt_setSite (u s v:ByteArray) (c:Int):∀l:List SiteB,siteAt v (setSite u s c l)=if v=u then (siteAt u l).map (fun x=>⟨x.url,s,c⟩) else siteAt v l
 | []=>by simp [setSite,siteAt]
 |x::l=>by
  unfold setSite;by_cases hx:x.url=u
  ·rw [if_pos hx];by_cases hv:v=u
   ·subst hv;simp [siteAt,hx]
   ·rw [if_neg hv];have:x.url≠v:=fun e=>hv (by rw [←e,hx])
    simp [siteAt,this]
  ·rw [if_neg hx];by_cases hv:x.url=v
   ·have:v≠u:=fun e=>hx (by rw [hv,e])
    simp [siteAt,hv,this]
   ·rw [siteAt,if_neg hv,siteAt_setSite u s v c l];simp [siteAt,hx,hv]
theorem siteAt_setCut (u v:ByteArray) (c:Int):∀l:List SiteB,siteAt v (setCut u c l)=if v=u then (siteAt u l).map (fun x=>⟨x.url,x.text,c⟩) else siteAt v l
 | []=>by simp [setCut,siteAt]
 |x::l=>by
  unfold setCut;by_cases hx:x.url=u
  ·rw [if_pos hx];by_cases hv:v=u
   ·subst hv;simp [siteAt,hx]
   ·rw [if_neg hv];have:x.url≠v:=fun e=>hv (by rw [←e,hx])
    simp [siteAt,this]
  ·rw [if_neg hx];by_cases hv:x.url=v
   ·have:v≠u:=fun e=>hx (by rw [hv,e])
    simp [siteAt,hv,this]
   ·rw [siteAt,if_neg hv,siteAt_setCut u v c l];simp [siteAt,hx,hv]
theorem siteAt_app (v:ByteArray) (x:SiteB):∀l:List SiteB,siteAt v (l++[x])=(siteAt v l).or (if x.url=v then some x else none)
 | []=>by simp [siteAt]
 |y::l=>by
  rw [List.cons_append];unfold siteAt;split
  ·rfl
  ·exact siteAt_app v x l
structure NetOk (n:NetB):Prop where
 apart:(n.sites.map (·.url)).Nodup
 few:n.sites.length≤60
 small:∀x∈n.sites,x.url.size≤100000∧x.text.size≤20000∧-1≤x.cut∧x.cut≤9223372036854775807
theorem putN_ok {n:NetB} {u s:ByteArray} (h:NetOk n) (hu:u.size≤100000):NetOk (putN n u s).2:=by
 unfold putN;split
 ·exact h
 ·split
  ·exact h
  ·rename_i hs;split
   ·refine ⟨by rw [setSite_map];exact h.apart,?_,?_⟩
    ·have:=congrArg List.length (setSite_map u s (-1) n.sites);simp only [List.length_map] at this;show (setSite u s (-1) n.sites).length≤60;rw [this];exact h.few
    ·intro x hx;have hall:∀l:List SiteB,(∀x∈l,x.url.size≤100000∧x.text.size≤20000∧-1≤x.cut∧x.cut≤9223372036854775807)→∀x∈setSite u s (-1) l,x.url.size≤100000∧x.text.size≤20000∧-1≤x.cut∧x.cut≤9223372036854775807:=by
      intro l;induction l with
      |nil=>intro _ x hx;cases hx
      |cons y l ih=>
       intro hl x hx;unfold setSite at hx;split at hx
       ·rcases List.mem_cons.1 hx with rfl|hx
        ·exact ⟨(hl y (by simp)).1,by show s.size≤20000;omega,by show (-1:Int)≤-1;omega,by show (-1:Int)≤9223372036854775807;omega⟩
        ·exact hl x (by simp [hx])
       ·rcases List.mem_cons.1 hx with rfl|hx
        ·exact hl _ (by simp)
        ·exact ih (fun z hz=>hl z (by simp [hz])) x hx
     exact hall _ h.small x hx
   ·split
    ·exact h
    ·rename_i hn hl;refine ⟨?_,by show (n.sites++[_]).length≤60;rw [List.length_append];simp;omega,?_⟩
     ·show ((n.sites++[(⟨u,s,-1⟩:SiteB)]).map (·.url)).Nodup;rw [List.map_append,List.nodup_append];refine ⟨h.apart,by simp,?_⟩;intro a ha b hb hab;obtain ⟨x,hx,rfl⟩:=List.mem_map.1 ha;have:b=u:=by simpa using hb
      subst this;exact siteAt_none.1 hn x hx hab
     ·intro x hx;rcases List.mem_append.1 hx with hx|hx
      ·exact h.small x hx
      ·obtain rfl:x=⟨u,s,-1⟩:=by simpa using hx
       exact ⟨hu,by show s.size≤20000;omega,by show (-1:Int)≤-1;omega,by show (-1:Int)≤9223372036854775807;omega⟩
theorem hostN_ok {n:NetB} {u:ByteArray} {on:Bool} (h:NetOk n):NetOk (hostN n u on).2:=by
 unfold hostN;split
 ·exact ⟨h.apart,h.few,h.small⟩
 ·exact h
theorem cutN_ok {n:NetB} {u:ByteArray} {k:Int} (h:NetOk n) (hk:k≤9223372036854775807):NetOk (cutN n u k).2:=by
 unfold cutN;split
 ·exact h
 ·split
  ·exact h
  ·rename_i hk0;refine ⟨by rw [setCut_map];exact h.apart,?_,?_⟩
   ·have:=congrArg List.length (setCut_map u k n.sites);simp only [List.length_map] at this;show (setCut u k n.sites).length≤60;rw [this];exact h.few
   ·intro x hx;have hall:∀l:List SiteB,(∀x∈l,x.url.size≤100000∧x.text.size≤20000∧-1≤x.cut∧x.cut≤9223372036854775807)→∀x∈setCut u k l,x.url.size≤100000∧x.text.size≤20000∧-1≤x.cut∧x.cut≤9223372036854775807:=by
     intro l;induction l with
     |nil=>intro _ x hx;cases hx
     |cons y l ih=>
      intro hl x hx;unfold setCut at hx;split at hx
      ·rcases List.mem_cons.1 hx with rfl|hx
       ·exact ⟨(hl y (by simp)).1,(hl y (by simp)).2.1,by show-1≤k;omega,hk⟩
       ·exact hl x (by simp [hx])
      ·rcases List.mem_cons.1 hx with rfl|hx
       ·exact hl _ (by simp)
       ·exact ih (fun z hz=>hl z (by simp [hz])) x hx
    exact hall _ h.small x hx
abbrev RuleB:=ByteArray×List ByteArray
def ruleOf (r:RuleB):RuleL:=(bl r.1,r.2.map bl)
def RowP (w:World) (v:Value) (l:List ByteArray):Prop:=
 ∃ao cap,v=.slice ao l.length cap∧l.length≤cap∧cap≤maxLen∧(ao=none→cap=0)∧(∀i,i<l.length→∃b off,ao=some ⟨b,off,none⟩∧b<w.heap.size∧∀k,(hk:k<l.length)→w.cell? ⟨b,off+k,none⟩=some (.string l[k]))
theorem RowP.parts {w:World} {v:Value} {l:List ByteArray} (h:RowP w v l):
  ∃ao cap,v=.slice ao l.length cap∧l.length≤cap∧cap≤maxLen∧(∀i,(hi:i<l.length)→∃b off,ao=some ⟨b,off,none⟩∧b<w.heap.size∧∀k,(hk:k<l.length)→w.cell? ⟨b,off+k,none⟩=some (.string l[k])):=by
 obtain ⟨ao,cap,h1,h2,h3,_,h5⟩:=h;exact ⟨ao,cap,h1,h2,h3,h5⟩
theorem RowP.ext {w w':World} {v:Value} {l:List ByteArray} (h:RowP w v l) (hb:Below w.heap.size w w'):RowP w' v l:=by
 obtain ⟨ao,cap,h1,h2,h3,h4,h5⟩:=h;refine ⟨ao,cap,h1,h2,h3,h4,fun i hi=>?_⟩;obtain ⟨b,off,e,hlt,hc⟩:=h5 i hi;exact ⟨b,off,e,Nat.lt_of_lt_of_le hlt hb.size,fun k hk=>(hb.cell (p:=⟨b,off+k,none⟩) hlt).trans (hc k hk)⟩
theorem RowP.of_row {w:World} {v:Value} {l:List ByteArray} (h:Row encStr 1 w v l):RowP w v l:=by
 rcases h.one with ⟨rfl,rfl⟩|⟨b,off,cap,rfl,h1,h2,h3,h4⟩
 ·exact ⟨none,0,rfl,Nat.le_refl _,Nat.zero_le _,fun _=>rfl,fun i hi=>absurd hi (Nat.not_lt_zero _)⟩
 ·exact ⟨some ⟨b,off,none⟩,cap,rfl,h1,h2,(fun h=>by cases h),fun i hi=>⟨b,off,rfl,h3,h4⟩⟩
def RulesRow (w:World) (v:Value) (l:List RuleB):Prop:=
 ∃ao cap,v=.slice ao l.length cap∧l.length≤cap∧cap≤maxLen∧∀i,i<l.length→∃b off,ao=some ⟨b,off,none⟩∧b<w.heap.size∧
  ∀j,(hj:j<l.length)→w.cell? ⟨b,off+j*2,none⟩=some (.string l[j].1)∧∃tv,w.cell? ⟨b,off+j*2+1,none⟩=some tv∧RowP w tv l[j].2
theorem RulesRow.ext {w w':World} {v:Value} {l:List RuleB} (h:RulesRow w v l) (hb:Below w.heap.size w w'):RulesRow w' v l:=by
 obtain ⟨ao,cap,h1,h2,h3,h4⟩:=h;refine ⟨ao,cap,h1,h2,h3,fun i hi=>?_⟩;obtain ⟨b,off,e,hlt,hc⟩:=h4 i hi;refine ⟨b,off,e,Nat.lt_of_lt_of_le hlt hb.size,fun j hj=>?_⟩;obtain ⟨c1,tv,c2,c3⟩:=hc j hj;exact ⟨(hb.cell (p:=⟨b,off+j*2,none⟩) hlt).trans c1,tv,(hb.cell (p:=⟨b,off+j*2+1,none⟩) hlt).trans c2,c3.ext hb⟩
def Small (r:RuleB):Prop:=r.1.size≤120∧r.2.length≤10∧∀t∈r.2,t.size≤120
def Fair (r:RuleB):Prop:=r.1.size≤30000∧r.2.length≤30000∧∀t∈r.2,t.size≤30000
theorem Small.fair {r:RuleB} (h:Small r):Fair r:=⟨by have:=h.1;omega,by have:=h.2.1;omega,fun t ht=>by have:=h.2.2 t ht;omega⟩
theorem drop_bl (ts:List ByteArray) (k:Nat) (h:k<ts.length):(ts.map bl).drop k=bl ts[k]::(ts.map bl).drop (k+1):=by
 rw [List.drop_eq_getElem_cons (by rw [List.length_map];exact h),List.getElem_map]
theorem drop_end (ts:List ByteArray):(ts.map bl).drop ts.length=[]:=List.drop_of_length_le (by rw [List.length_map];exact Nat.le_refl _)
theorem ruleOne_any {E:Nat→Addr} (f:ByteArray) (tv:Value) (ts:List ByteArray) (w:World) (hs:Fair (f,ts)) (hv:RowP w tv ts) (hE:LEnv E w):
  Calls Tryz.prog 66 #[.agg #[.string f,tv]] w fun e w'=>e=.returned (errV E (oneE (ruleOf (f,ts))))∧Below w.heap.size w w':=by
 obtain ⟨hf,hn,ht⟩:=hs;obtain ⟨ao,cap,rfl,h1,h2,H3⟩:=hv.parts;have HM:=Lib.hid H3;have HT:=Lib.hid ht;have HE:=Lib.hid hE;clear H3 hv ht hE;have b0:Below w.heap.size w (w.alloc (.cells #[.string f,.slice ao ts.length cap] 63)):=(Below.refl _ w).alloc (Nat.le_refl _) _;have k0:(w.alloc (.cells #[.string f,.slice ao ts.length cap] 63)).cell? ⟨w.heap.size,0,none⟩=some (.string f):=by rw [World.cell?_alloc_at _ _ _ _ rfl];rfl
 have k1:(w.alloc (.cells #[.string f,.slice ao ts.length cap] 63)).cell? ⟨w.heap.size,1,none⟩=some (.slice ao ts.length cap):=by rw [World.cell?_alloc_at _ _ _ _ rfl];rfl
 have kb:w.heap.size<(w.alloc (.cells #[.string f,.slice ao ts.length cap] 63)).heap.size:=by simp
 go_enter Tryz.func66,Tryz.ntmps66;go_wp2_with fail;generalize hW:w.alloc (.cells #[.string f,.slice ao ts.length cap] 63)=W at*;clear hW;have C:=Lib.hid (linkBegins_any f W (by have:f.size≤30000:=hf;omega) (HE.out.ext b0));refine C.out.mono ?_;clear C;rintro e w1 ⟨rfl,hb⟩;have b1:=b0.trans (hb.mono b0.size);have c1:=(hb.cell (p:=⟨w.heap.size,1,none⟩) kb).trans k1;clear hb k0 k1 kb b0
 cases hc:beginE (bl f) with
 |succ c=>
  have HX:Hid (oneE (ruleOf (f,ts))=c+1):=by show _=_;unfold oneE ruleOf;rw [if_neg (by rw [hc];omega),hc]
  rw [show errV E (c+1)=sentV E c from rfl];clear hc;go_wp2_with fail;go_ret;exact ⟨by rw [HX.out];rfl,b1⟩
 |zero=>
  rw [show errV E 0=.nilIface from rfl];by_cases h8:ts.length≤8
  ·have HX:Hid (oneE (ruleOf (f,ts))=firstE (ts.map bl)):=by show _=_;unfold oneE ruleOf;rw [if_pos hc,if_neg (by simp;omega)]
   clear hc;go_wp2_with fail;go_loopw [21] (fun i wr=>∃k:Nat,k≤ts.length∧i=.int .i64 k∧Hid (firstE (ts.map bl)=firstE ((ts.map bl).drop k))∧Below w1.heap.size w1 wr) (fun i _=>ts.length- (intOf i).toNat)
   case atStart=>exact ⟨0,Nat.zero_le _,rfl,rfl,Below.refl _ _⟩
   case round=>
    obtain ⟨k,hk,rfl,HF,hb⟩:=hrel;have b2:=b1.trans (hb.mono b1.size);by_cases hlt:k<ts.length
    ·obtain ⟨b,off,rfl,hbl,hcell⟩:=HM.out k hlt;have cl:=(b2.cell (p:=⟨b,off+k,none⟩) hbl).trans (hcell k hlt);have sz:=HT.out ts[k] (List.getElem_mem hlt);have HD:=Lib.hid (drop_bl ts k hlt);clear hcell;generalize ts[k]=t at cl sz HD;have C:=Lib.hid (linkBegins_any t wr (by omega) (HE.out.ext b2));go_wp2_with fail;refine C.out.mono ?_;clear C;rintro e w3 ⟨rfl,hb3⟩
     cases hc:beginE (bl t) with
     |succ c=>
      have HY:Hid (firstE (ts.map bl)=c+1):=by show _=_;rw [HF.out,HD.out,firstE,if_neg (by omega),hc]
      rw [show errV E (c+1)=sentV E c from rfl];clear hc HF HD;go_wp2_with fail;go_ret;exact ⟨by rw [HX.out,HY.out];rfl,b2.trans (hb3.mono b2.size)⟩
     |zero=>
      have HY:Hid (firstE (ts.map bl)=firstE ((ts.map bl).drop (k+1))):=by show _=_;rw [HF.out,HD.out,firstE,if_pos hc]
      rw [show errV E 0=.nilIface from rfl];clear hc HF HD;go_wp2_with fail;go_roundw
      case rel=>exact ⟨k+1,by omega,by go_num,HY,hb.trans (hb3.mono hb.size)⟩
      case measure=>simp [intOf];omega
    ·obtain rfl:k=ts.length:=by omega
     have HY:Hid (firstE (ts.map bl)=0):=by show _=_;rw [HF.out,drop_end];rfl
     go_wp2_with fail;go_ret;exact ⟨by rw [HX.out,HY.out];rfl,b2⟩
  ·have HX:Hid (oneE (ruleOf (f,ts))=7+1):=by show _=_;unfold oneE ruleOf;rw [if_pos hc,if_pos (by simp;omega)]
   have c2:=(HE.out.ext b1).path.full;clear hc;go_wp2_with fail;go_ret;exact ⟨by rw [HX.out];rfl,b1⟩
def CheckPost (E:Nat→Addr) (l:List RuleB) (w:World) (e:Ending) (w':World):Prop:=
 (∃ev,e=.returned ev∧Hid (IsErr E w' ev (rulesEr (l.map ruleOf))))∧Below w.heap.size w w'
theorem drop_rule (l:List RuleB) (k:Nat) (h:k<l.length):(l.map ruleOf).drop k=ruleOf l[k]::(l.map ruleOf).drop (k+1):=by
 rw [List.drop_eq_getElem_cons (by rw [List.length_map];exact h),List.getElem_map]
theorem drop_rules (l:List RuleB):(l.map ruleOf).drop l.length=[]:=List.drop_of_length_le (by rw [List.length_map];exact Nat.le_refl _)
theorem mirrorCheck_any {E:Nat→Addr} (v:Value) (l:List RuleB) (w:World) (hl:l.length≤1000) (hs:∀r∈l,Fair r) (hv:RulesRow w v l) (hE:LEnv E w):
  Calls Tryz.prog 32 #[v] w (CheckPost E l w):=by
 have HR:=Lib.hid hv;obtain ⟨ao,cap,rfl,h1,h2,H3⟩:=hv;have HM:=Lib.hid H3;have HS:=Lib.hid hs;have HE:=Lib.hid hE;clear H3 hs hE;go_enter Tryz.func32,Tryz.ntmps32;by_cases h10:l.length≤10
 ·have HX:Hid (rulesEr (l.map ruleOf)=match badAt 0 (l.map ruleOf) with
    |none=>⟨0,none⟩
    |some p=>⟨p.2,some (p.1:Int)⟩):=by show _=_;unfold rulesEr;rw [if_neg (by rw [List.length_map];omega)];first|done|(cases badAt 0 (l.map ruleOf)<;>rfl)
  go_wp2_with fail;go_loopw [12] (fun i wr=>∃k:Nat,k≤l.length∧i=.int .i64 k∧Hid (badAt 0 (l.map ruleOf)=badAt k ((l.map ruleOf).drop k))∧Below w.heap.size w wr) (fun i _=>l.length- (intOf i).toNat)
  case atStart=>exact ⟨0,Nat.zero_le _,rfl,rfl,Below.refl _ _⟩
  case round=>
   obtain ⟨k,hk,rfl,HF,hb⟩:=hrel;by_cases hlt:k<l.length
   ·obtain ⟨b,off,rfl,hbl,hcell⟩:=HM.out k hlt;obtain ⟨d1,tv,d2,d3⟩:=hcell k hlt;have cl1:=(hb.cell (p:=⟨b,off+k*2,none⟩) hbl).trans d1;have cl2:=(hb.cell (p:=⟨b,off+k*2+1,none⟩) hbl).trans d2;have HT:=Lib.hid (d3.ext hb);have HZ:=Lib.hid (HS.out l[k] (List.getElem_mem hlt));have HD:=Lib.hid (drop_rule l k hlt);clear hcell d1 d2 d3;generalize l[k]=r at cl1 HT HZ HD;obtain ⟨f,ts⟩:=r;obtain ⟨ao2,cap2,rfl,_⟩:=id HT.out;simp only at cl1;have C:=Lib.hid (fun W (hb2:Below wr.heap.size wr W)=>ruleOne_any f _ ts W HZ.out (HT.out.ext hb2) (HE.out.ext (hb.trans (hb2.mono hb.size))));go_wp2_with fail;refine (C.out _ ((Below.refl _ wr).alloc (Nat.le_refl _) _)).mono ?_;clear C;rintro e w3 ⟨rfl,hb3⟩;have b3:=hb.trans ((((Below.refl wr.heap.size wr).alloc (Nat.le_refl _) (.cells #[.string f,.slice ao2 ts.length cap2] 63)).trans (hb3.mono (by simp))).mono hb.size);have hle:=oneE_le (ruleOf (f,ts));obtain ⟨c,hc⟩:∃c,oneE (ruleOf (f,ts))=c:=⟨_,rfl⟩;rw [hc] at hle⊢
    cases c with
    |succ c=>
     have HY:Hid (rulesEr (l.map ruleOf)=⟨c+1,some (k:Int)⟩):=by
      show _=_;rw [HX.out,HF.out,HD.out,badAt,if_neg (by rw [hc];omega),hc]
     rw [show errV E (c+1)=sentV E c from rfl];clear hc HF HD;go_wp2_with fail;go_ret;refine ⟨⟨_,rfl,?_⟩,b3.alloc b3.size _⟩;show IsErr _ _ _ _;rw [HY.out];exact IsErr.fault E _ c (by omega) _ _ (by rw [World.cell?_alloc_at _ _ _ _ rfl];rfl) (by rw [World.cell?_alloc_at _ _ _ _ rfl];rfl)
    |zero=>
     have HY:Hid (badAt 0 (l.map ruleOf)=badAt (k+1) ((l.map ruleOf).drop (k+1))):=by
      show _=_;rw [HF.out,HD.out,badAt,if_pos hc]
     rw [show errV E 0=.nilIface from rfl];clear hc HF HD;go_wp2_with fail;go_roundw
     case rel=>exact ⟨k+1,by omega,by go_num,HY,b3⟩
     case measure=>simp [intOf];omega
   ·obtain rfl:k=l.length:=by omega
    have HY:Hid (rulesEr (l.map ruleOf)=⟨0,none⟩):=by show _=_;rw [HX.out,HF.out,drop_rules];rfl
    go_wp2_with fail;go_ret;exact ⟨⟨_,rfl,by show IsErr _ _ _ _;rw [HY.out];exact IsErr.nil E _⟩,hb⟩
 ·have HX:Hid (rulesEr (l.map ruleOf)=⟨7+1,none⟩):=by show _=_;unfold rulesEr;rw [if_pos (by rw [List.length_map];omega)]
  have c2:=HE.out.path.full;go_wp2_with fail;go_ret;exact ⟨⟨_,rfl,by show IsErr _ _ _ _;rw [HX.out];exact IsErr.base E _ 7 (by decide)⟩,Below.refl _ _⟩
def wayOne (n:NetB) (u:List UInt8) (w:WantB):Nat×List FileB×NetB:=
 if (getN n ⟨u.toArray⟩).2.1≠0 then ((getN n ⟨u.toArray⟩).2.1,[],(getN n ⟨u.toArray⟩).2.2)
 else ((rightW w ⟨(getN n ⟨u.toArray⟩).1.toArray⟩).1,(rightW w ⟨(getN n ⟨u.toArray⟩).1.toArray⟩).2,(getN n ⟨u.toArray⟩).2.2)
def okLine (u:List UInt8):List UInt8:=u++[32,111,107]
def badLine (u:List UInt8) (c:Nat):List UInt8:=u++32::errTx c
def tryGo (w:WantB):NetB→List (List UInt8)→List (List UInt8)→Nat→Nat×List FileB×List (List UInt8)×NetB
 |n,[],lines,last=>(last,[],lines,n)
 |n,u::us,lines,_=>
  if (wayOne n u w).1=0 then (0,(wayOne n u w).2.1,lines++[okLine u],(wayOne n u w).2.2)
  else tryGo w (wayOne n u w).2.2 us (lines++[badLine u (wayOne n u w).1]) (wayOne n u w).1
def askE (l:List RuleL) (w:WantB):Er:=if (rulesEr l).code≠0 then rulesEr l else ⟨wantE w,none⟩
def tryF (n:NetB) (l:List RuleL) (w:WantB):Er×List FileB×List (List UInt8)×NetB:=
 if (askE l w).code≠0 then (askE l w,[],[],n)
 else (⟨(tryGo w n (waysOut l (bl w.url)) [] 0).1,none⟩,(tryGo w n (waysOut l (bl w.url)) [] 0).2)
def heldLine:List UInt8:=[104,101,108,100]
def fetchF (h:HeldB) (n:NetB) (l:List RuleL) (w:WantB):Er×List FileB×List (List UInt8)×HeldB×NetB:=
 if (askE l w).code≠0 then (askE l w,[],[],h,n)
 else match getL h.trees w.sum with
  |some t=>(⟨0,none⟩,t,[heldLine],h,n)
  |none=>((tryF n l w).1,(tryF n l w).2.1,(tryF n l w).2.2.1,if (tryF n l w).1.code=0 then (putH h (tryF n l w).2.1).2.2 else h,(tryF n l w).2.2.2)
theorem rightW_fine {w:WantB} {s:ByteArray} (h:(rightW w s).1=0):(treeEr (rightW w s).2).code=0∧treeSum (rightW w s).2=w.sum:=by
 unfold rightW at h⊢;split at h
 ·rename_i h1;exact absurd h h1
 rename_i h1;rw [if_neg h1];split at h
 ·cases h
 rename_i h2;rw [if_neg h2];exact ⟨(treeOk_iff _).2 (openW_ok (by simpa using h1)),by simpa using h2⟩
theorem wayOne_fine {n:NetB} {u:List UInt8} {w:WantB} (h:(wayOne n u w).1=0):(treeEr (wayOne n u w).2.1).code=0∧treeSum (wayOne n u w).2.1=w.sum:=by
 unfold wayOne at h⊢;split at h
 ·rename_i h1;exact absurd h h1
 ·rename_i h1;rw [if_neg h1];exact rightW_fine h
theorem tryGo_good (w:WantB):∀(us:List (List UInt8)) (n:NetB) (lines:List (List UInt8)) (last:Nat),(last≠0∨us≠[])→(tryGo w n us lines last).1=0→(treeEr (tryGo w n us lines last).2.1).code=0∧treeSum (tryGo w n us lines last).2.1=w.sum∧(tryGo w n us lines last).2.2.1≠[]
 | [],n,lines,last,h,h0=>by
  rcases h with h|h
  ·exact absurd h0 h
  ·exact absurd rfl h
 |u::us,n,lines,last,h,h0=>by
  unfold tryGo at h0⊢;by_cases h1:(wayOne n u w).1=0
  ·rw [if_pos h1];obtain ⟨a,b⟩:=wayOne_fine h1;exact ⟨a,b,by simp⟩
  ·rw [if_neg h1] at h0⊢;exact tryGo_good w us _ _ _ (.inl h1) h0
theorem tryGo_bad (w:WantB):∀(us:List (List UInt8)) (n:NetB) (lines:List (List UInt8)) (last:Nat),(tryGo w n us lines last).1≠0→(tryGo w n us lines last).2.1=[]
 | [],n,lines,last,_=>rfl
 |u::us,n,lines,last,h0=>by
  unfold tryGo at h0⊢;by_cases h1:(wayOne n u w).1=0
  ·rw [if_pos h1] at h0;exact absurd rfl h0
  ·rw [if_neg h1] at h0⊢;exact tryGo_bad w us _ _ _ h0
theorem wayOne_le (n:NetB) (u:List UInt8) (w:WantB) (hr:∀s,(rightW w s).1≤13):(wayOne n u w).1≤13:=by
 unfold wayOne;split
 ·unfold getN;split
  ·exact linkE_le _
  ·split
   ·exact Nat.le_of_ble_eq_true rfl
   ·split<;>exact Nat.le_of_ble_eq_true rfl
 ·exact hr _
theorem askE_zero {l:List RuleL} {w:WantB} (h:(askE l w).code=0):(rulesEr l).code=0∧wantE w=0:=by
 unfold askE at h;split at h
 ·rename_i h1;exact absurd h h1
 ·rename_i h1;exact ⟨by simpa using h1,h⟩
theorem waysOut_ne (l:List RuleL) (s:List UInt8):waysOut l s≠[]:=by
 unfold waysOut;split
 ·rename_i h;exact List.ne_nil_of_mem h
 ·simp
theorem tryF_fine {n:NetB} {l:List RuleL} {w:WantB} (h:(tryF n l w).1.code=0):(tryF n l w).1=⟨0,none⟩∧(treeEr (tryF n l w).2.1).code=0∧treeSum (tryF n l w).2.1=w.sum∧(tryF n l w).2.2.1≠[]:=by
 unfold tryF at h⊢;by_cases h1:(askE l w).code≠0
 ·rw [if_pos h1] at h;exact absurd h h1
 ·rw [if_neg h1] at h⊢;have h2:(tryGo w n (waysOut l (bl w.url)) [] 0).1=0:=h;obtain ⟨a,b,c⟩:=tryGo_good w _ n [] 0 (.inr (waysOut_ne l _)) h2;exact ⟨by rw [h2],a,b,c⟩
theorem tryF_bad {n:NetB} {l:List RuleL} {w:WantB} (h:(tryF n l w).1.code≠0):(tryF n l w).2.1=[]:=by
 unfold tryF at h⊢;by_cases h1:(askE l w).code≠0
 ·rw [if_pos h1]
 ·rw [if_neg h1] at h⊢;exact tryGo_bad w _ n [] 0 h
def fetchS (S:ShopS) (t:TapeS) (n:NetB) (name:ByteArray):Er×List FileB×List (List UInt8)×ShopS×TapeS×NetB:=
 match findW name S.lock with
 |none=>(⟨6,none⟩,[],[],S,t,n)
 |some k=>
  if (fetchF S.held n S.rules (S.lock.getD k zeroW)).1.code≠0 then ((fetchF S.held n S.rules (S.lock.getD k zeroW)).1,[],(fetchF S.held n S.rules (S.lock.getD k zeroW)).2.2.1,S,t,(fetchF S.held n S.rules (S.lock.getD k zeroW)).2.2.2.2)
  else if (holdS S t (fetchF S.held n S.rules (S.lock.getD k zeroW)).2.1).1≠0 then (⟨(holdS S t (fetchF S.held n S.rules (S.lock.getD k zeroW)).2.1).1,none⟩,[],(fetchF S.held n S.rules (S.lock.getD k zeroW)).2.2.1,(holdS S t (fetchF S.held n S.rules (S.lock.getD k zeroW)).2.1).2.1,(holdS S t (fetchF S.held n S.rules (S.lock.getD k zeroW)).2.1).2.2,(fetchF S.held n S.rules (S.lock.getD k zeroW)).2.2.2.2)
  else (⟨0,none⟩,(fetchF S.held n S.rules (S.lock.getD k zeroW)).2.1,(fetchF S.held n S.rules (S.lock.getD k zeroW)).2.2.1,(holdS S t (fetchF S.held n S.rules (S.lock.getD k zeroW)).2.1).2.1,(holdS S t (fetchF S.held n S.rules (S.lock.getD k zeroW)).2.1).2.2,(fetchF S.held n S.rules (S.lock.getD k zeroW)).2.2.2.2)
structure PlayS where
 shop:ShopS
 tape:TapeS
 net:NetB
 kept:Option (List UInt8)
def play0:PlayS:=⟨emptyS,⟨[],false,-1⟩,⟨[],[],0⟩,none⟩
def okW:List UInt8:=[111,107]
def joinedL (l:List (List UInt8)):List UInt8:=if l=[] then [110,111,116,104,105,110,103] else [32].intercalate l
def toldF (f:FileB):List UInt8:=(if f.run=true then [43] else [])++(bl f.path++61::bl f.text)
def toldL (l:List FileB):List UInt8:=if l=[] then [45] else [44].intercalate (l.map toldF)
def sumW:List UInt8→Option Nat
 | []=>none
 |c::d=>if c=115 then (match numOf d 10 with|some n=>if n<1000000007 then some n else none|none=>none) else none
def sumTx (n:Int):List UInt8:=115::Lib.decDigits n.toNat
def fileW (x:List UInt8):Option FileB:=
 if (Lib.cut x [61]).2.2=false then none
 else some (if (Lib.cut x [61]).1.head? =some 43 then mkF (Lib.cut x [61]).1.tail true (Lib.cut x [61]).2.1 else mkF (Lib.cut x [61]).1 false (Lib.cut x [61]).2.1)
def filesW (s:List UInt8):Nat×List FileB:=
 if s=[45] then (0,[]) else match (cutL 44 s).mapM fileW with
  |none=>(1,[])
  |some l=>((sortT l).1.code,(sortT l).2)
def baW (s:List UInt8):ByteArray:=⟨s.toArray⟩
def doW (P:PlayS) (k:List UInt8) (w:List (List UInt8)):Nat×List UInt8×PlayS:=
 if k=[115,101,114,118,101]∧w.length=2 then ((putN P.net (baW (w.getD 0 [])) (baW (w.getD 1 []))).1,okW,{P with net:=(putN P.net (baW (w.getD 0 [])) (baW (w.getD 1 []))).2})
 else if k=[112,97,99,107]∧w.length=2 then
  (if (filesW (w.getD 1 [])).1≠0 then ((filesW (w.getD 1 [])).1,[],P)
   else ((putN P.net (baW (w.getD 0 [])) (baW (packL (filesW (w.getD 1 [])).2))).1,okW,{P with net:=(putN P.net (baW (w.getD 0 [])) (baW (packL (filesW (w.getD 1 [])).2))).2}))
 else if k=[112,114,101,115,115]∧w.length=2 then
  (if (filesW (w.getD 1 [])).1≠0 then ((filesW (w.getD 1 [])).1,[],P)
   else ((putN P.net (baW (w.getD 0 [])) (baW (pressL (packL (filesW (w.getD 1 [])).2)))).1,okW,{P with net:=(putN P.net (baW (w.getD 0 [])) (baW (pressL (packL (filesW (w.getD 1 [])).2)))).2}))
 else if k=[111,102,102]∧w.length=1 then ((hostN P.net (baW (w.getD 0 [])) false).1,okW,{P with net:=(hostN P.net (baW (w.getD 0 [])) false).2})
 else if k=[111,110]∧w.length=1 then ((hostN P.net (baW (w.getD 0 [])) true).1,okW,{P with net:=(hostN P.net (baW (w.getD 0 [])) true).2})
 else if k=[99,117,116]∧w.length=2 then
  (match numOf (w.getD 1 []) 9 with
   |none=>(1,[],P)
   |some n=>((cutN P.net (baW (w.getD 0 [])) n).1,okW,{P with net:=(cutN P.net (baW (w.getD 0 [])) n).2}))
 else if k=[99,97,108,108,115]∧w.length=0 then (0,Lib.decDigits P.net.calls,P)
 else if k=[115,117,109]∧w.length=1 then
  (if (filesW (w.getD 0 [])).1≠0 then ((filesW (w.getD 0 [])).1,[],P) else (0,sumTx (treeSum (filesW (w.getD 0 [])).2),P))
 else if k=[119,97,110,116]∧w.length=5 then
  (match numOf (w.getD 3 []) 9,sumW (w.getD 4 []) with
   |some n,some m=>((wantS P.shop P.tape (mkW (w.getD 0 []) (w.getD 1 []) (w.getD 2 []) n m)).1.code,okW,{P with shop:=(wantS P.shop P.tape (mkW (w.getD 0 []) (w.getD 1 []) (w.getD 2 []) n m)).2.1,tape:=(wantS P.shop P.tape (mkW (w.getD 0 []) (w.getD 1 []) (w.getD 2 []) n m)).2.2})
   |_,_=>(1,[],P))
 else if k=[117,110,119,97,110,116]∧w.length=1 then ((unwantS P.shop P.tape (baW (w.getD 0 []))).1.code,okW,{P with shop:=(unwantS P.shop P.tape (baW (w.getD 0 []))).2.1,tape:=(unwantS P.shop P.tape (baW (w.getD 0 []))).2.2})
 else if k=[102,101,116,99,104]∧w.length=1 then
  ((fetchS P.shop P.tape P.net (baW (w.getD 0 []))).1.code,[59].intercalate (fetchS P.shop P.tape P.net (baW (w.getD 0 []))).2.2.1++32::toldL (fetchS P.shop P.tape P.net (baW (w.getD 0 []))).2.1,{P with shop:=(fetchS P.shop P.tape P.net (baW (w.getD 0 []))).2.2.2.1,tape:=(fetchS P.shop P.tape P.net (baW (w.getD 0 []))).2.2.2.2.1,net:=(fetchS P.shop P.tape P.net (baW (w.getD 0 []))).2.2.2.2.2})
 else if k=[104,101,108,100]∧w.length=0 then (0,joinedL (P.shop.held.sums.map sumTx),P)
 else if k=[100,114,111,112]∧w.length=1 then
  (match sumW (w.getD 0 []) with
   |none=>(1,[],P)
   |some n=>((dropS P.shop P.tape n).1,okW,{P with shop:=(dropS P.shop P.tape n).2.1,tape:=(dropS P.shop P.tape n).2.2}))
 else if k=[108,111,99,107]∧w.length=0 then (0,joinedL (P.shop.lock.map fun x=>bl x.name),P)
 else if k=[107,101,101,112]∧w.length=0 then
  (if (bundleLk P.shop.held P.shop.lock).1.code≠0 then ((bundleLk P.shop.held P.shop.lock).1.code,[],P)
   else (0,Lib.decDigits (bundleLk P.shop.held P.shop.lock).2.length,{P with kept:=some (bundleLk P.shop.held P.shop.lock).2}))
 else if k=[108,111,97,100]∧w.length=0 then
  (match P.kept with
   |none=>(6,[],P)
   |some s=>((loadS P.shop P.tape s).1.code,okW,{P with shop:=(loadS P.shop P.tape s).2.1,tape:=(loadS P.shop P.tape s).2.2}))
 else if k=[102,97,105,108]∧w.length=1 then
  (match numOf (w.getD 0 []) 9 with
   |none=>(1,[],P)
   |some n=>((cutT P.tape n).1,okW,{P with tape:=(cutT P.tape n).2}))
 else if k=[97,103,97,105,110]∧w.length=0 then
  (if (openS P.tape.bytes).1.code≠0 then ((openS P.tape.bytes).1.code,[],{P with tape:=recT P.tape})
   else (0,okW,{P with shop:=(openS P.tape.bytes).2,tape:=recT P.tape}))
 else if k=[99,108,101,97,110]∧w.length=1 then (cleanE (w.getD 0 []),if cleanT (w.getD 0 [])=[] then [46] else cleanT (w.getD 0 []),P)
 else (1,[],P)
def playW (P:PlayS) (w:List (List UInt8)):Nat×List UInt8×PlayS:=
 if w.headD []=wRule∧2<w.length then ((ruleS P.shop P.tape (w.getD 1 [],w.drop 2)).1,okW,{P with shop:=(ruleS P.shop P.tape (w.getD 1 [],w.drop 2)).2.1,tape:=(ruleS P.shop P.tape (w.getD 1 [],w.drop 2)).2.2})
 else doW P (w.headD []) w.tail
def lineS (P:PlayS) (s:List UInt8):List UInt8×PlayS:=
 (if (playW P (cutL 32 s)).1≠0 then errTx (playW P (cutL 32 s)).1 else (playW P (cutL 32 s)).2.1,(playW P (cutL 32 s)).2.2)
def linesS:PlayS→List (List UInt8)→List (List UInt8)
 |_,[]=>[]
 |P,s::l=>(lineS P s).1::linesS (lineS P s).2 l
def lastS:PlayS→List (List UInt8)→PlayS
 |P,[]=>P
 |P,s::l=>lastS (lineS P s).2 l
theorem linesS_len:∀(l:List (List UInt8)) (P:PlayS),(linesS P l).length=l.length
 | [],_=>rfl
 |s::l,P=>by unfold linesS;rw [List.length_cons,List.length_cons,linesS_len l]
theorem linesS_app:∀(l m:List (List UInt8)) (P:PlayS),linesS P (l++m)=linesS P l++linesS (lastS P l) m
 | [],_,_=>rfl
 |s::l,m,P=>by
  show (lineS P s).1::linesS (lineS P s).2 (l++m)=(lineS P s).1::(linesS (lineS P s).2 l++linesS (lastS (lineS P s).2 l) m);rw [linesS_app l m]
theorem linesS_take (l:List (List UInt8)) (P:PlayS) (n:Nat):(linesS P l).take n=linesS P (l.take n):=by
 have h:linesS P l=linesS P (l.take n)++linesS (lastS P (l.take n)) (l.drop n):=by rw [←linesS_app,List.take_append_drop]
 by_cases hn:n≤l.length
 ·rw [h,List.take_append_of_le_length (by rw [linesS_len,List.length_take];omega),List.take_of_length_le (by rw [linesS_len,List.length_take];omega)]
 ·rw [List.take_of_length_le (by rw [linesS_len];omega),List.take_of_length_le (by omega)]
theorem linesS_drop (l:List (List UInt8)) (P:PlayS) (n:Nat):(linesS P l).drop n=linesS (lastS P (l.take n)) (l.drop n):=by
 have h:linesS P l=linesS P (l.take n)++linesS (lastS P (l.take n)) (l.drop n):=by rw [←linesS_app,List.take_append_drop]
 by_cases hn:n≤l.length
 ·have e:(linesS P (l.take n)).length=n:=by rw [linesS_len,List.length_take];omega
  rw [h,List.drop_append_of_le_length (by omega),List.drop_eq_nil_of_le (by omega),List.nil_append]
 ·rw [List.drop_eq_nil_of_le (by rw [linesS_len];omega),List.drop_eq_nil_of_le (show l.length≤n by omega)];rfl
structure Still (P:PlayS):Prop where
 has:∃recs,Shopped P.shop P.tape recs
 off:P.tape.off=false
 cut:P.tape.cut= -1
def CalmL (t:TapeS):Prop:=t.off=false∧t.cut= -1
theorem appT_calm {t:TapeS} (h:CalmL t) (s:List UInt8):CalmL (appT t s).2:=by
 unfold appT;split
 ·exact h
 ·split
  ·exact h
  ·have hw:WroteL t.bytes t.off t.cut (recL s)=(t.bytes++recL s,false,-1,true):=by
    unfold WroteL;rw [if_neg (by rw [h.1];simp),if_neg (by rw [h.2];omega),if_neg (by rw [h.2];omega),h.2]
   rw [hw];exact ⟨rfl,rfl⟩
theorem ruleS_calm {S:ShopS} {t:TapeS} (h:CalmL t) (r:RuleL):CalmL (ruleS S t r).2.2:=by
 unfold ruleS;split
 ·exact h
 ·split<;>exact appT_calm h _
theorem wantS_calm {S:ShopS} {t:TapeS} (h:CalmL t) (w:WantB):CalmL (wantS S t w).2.2:=by
 unfold wantS;split
 ·exact h
 ·split<;>exact appT_calm h _
theorem unwantS_calm {S:ShopS} {t:TapeS} (h:CalmL t) (n:ByteArray):CalmL (unwantS S t n).2.2:=by
 unfold unwantS;split
 ·exact h
 ·split<;>exact appT_calm h _
theorem holdS_calm {S:ShopS} {t:TapeS} (h:CalmL t) (l:List FileB):CalmL (holdS S t l).2.2:=by
 unfold holdS;split
 ·exact h
 ·split<;>exact appT_calm h _
theorem dropS_calm {S:ShopS} {t:TapeS} (h:CalmL t) (n:Int):CalmL (dropS S t n).2.2:=by
 unfold dropS;split
 ·exact h
 ·split<;>exact appT_calm h _
theorem holdsS_calm:∀(ls:List (List FileB)) (S:ShopS) (t:TapeS),CalmL t→CalmL (holdsS S t ls).2.2
 | [],_,_,h=>h
 |l::ls,S,t,h=>by
  unfold holdsS;split
  ·exact holdS_calm h l
  ·exact holdsS_calm ls _ _ (holdS_calm h l)
theorem loadS_calm {S:ShopS} {t:TapeS} (h:CalmL t) (s:List UInt8):CalmL (loadS S t s).2.2:=by
 unfold loadS;split
 ·exact h
 ·exact holdsS_calm _ _ _ h
theorem recT_calm {t:TapeS} {S:ShopS} {recs:List (List UInt8)} (hs:Shopped S t recs) (h:CalmL t):recT t=t:=by
 have hb:t.bytes=recsL recs:=by
  rcases hs.tape.is with ⟨_,e⟩|⟨e,_⟩
  ·exact e
  ·rw [h.1] at e;cases e
 unfold recT;rw [hs.tape.reads,hb,List.take_length,←hb,←h.1,←h.2]
theorem fetchF_right {h:HeldB} {n:NetB} {l:List RuleL} {w:WantB} (k:HeldOk h) (h0:(fetchF h n l w).1.code=0):(treeEr (fetchF h n l w).2.1).code=0:=by
 unfold fetchF at h0⊢;by_cases ha:(askE l w).code≠0
 ·rw [if_pos ha] at h0;exact absurd h0 ha
 ·rw [if_neg ha] at h0⊢
  cases hg:getL h.trees w.sum with
  |some t=>exact (held_ok k hg).1
  |none=>
   rw [hg] at h0;exact (tryF_fine h0).2.1
theorem fetchS_ok {S:ShopS} {t:TapeS} {recs:List (List UInt8)} (h:Shopped S t recs) (n:NetB) (name:ByteArray):∃recs',Shopped (fetchS S t n name).2.2.2.1 (fetchS S t n name).2.2.2.2.1 recs':=by
 unfold fetchS;split
 ·exact ⟨recs,h⟩
 ·split
  ·exact ⟨recs,h⟩
  ·rename_i k _ h0;have hr:=fetchF_right (n:=n) (l:=S.rules) (w:=S.lock.getD k zeroW) h.shop.held (by simpa using h0);split<;>exact holdS_ok h hr
theorem fetchS_calm {S:ShopS} {t:TapeS} (h:CalmL t) (n:NetB) (name:ByteArray):CalmL (fetchS S t n name).2.2.2.2.1:=by
 unfold fetchS;split
 ·exact h
 ·split
  ·exact h
  ·split<;>exact holdS_calm h _
theorem Still.calm {P:PlayS} (h:Still P):CalmL P.tape:=⟨h.off,h.cut⟩
theorem Still.of {P:PlayS} (h1:∃recs,Shopped P.shop P.tape recs) (h2:CalmL P.tape):Still P:=⟨h1,h2.1,h2.2⟩
theorem play0_still:Still play0:=by
 refine Still.of ⟨[],emptyS_ok,?_⟩ ⟨rfl,rfl⟩;exact ⟨(fun s hs=>by cases hs),by show (0:Nat)≤_;omega,by show (-1:Int)≤-1∧(-1:Int)≤_;omega,.inl ⟨rfl,rfl⟩⟩
theorem again_same {P:PlayS} (h:Still P):playW P [[97,103,97,105,110]]=(0,okW,P):=by
 obtain ⟨recs,hs⟩:=h.has;have h1:=hs.opens;have h2:=recT_calm hs h.calm;obtain ⟨S,t,n,kp⟩:=P;simp only at h1 h2;simp only [playW,doW,List.headD_cons,List.tail_cons,List.length_cons,List.length_nil,h1,h2];simp [wRule]
theorem cutL_again:cutL 32 [97,103,97,105,110]=[[97,103,97,105,110]]:=by decide
theorem still_if {c:Prop} [Decidable c] {a b:Nat×List UInt8×PlayS} (h1:c→Still a.2.2) (h2:¬c→Still b.2.2):Still (if c then a else b).2.2:=by
 by_cases h:c
 ·rw [if_pos h];exact h1 h
 ·rw [if_neg h];exact h2 h
theorem doW_still {P:PlayS} (h:Still P) (k:List UInt8) (w:List (List UInt8)) (hk:k≠[102,97,105,108]):Still (doW P k w).2.2:=by
 obtain ⟨recs,hs⟩:=h.has;have hc:=h.calm;unfold doW
 repeat' (refine still_if (fun hf=>?_) (fun _=>?_))
 all_goals first
  |exact h
  |exact Still.of ⟨recs,hs⟩ hc
  |exact Still.of (unwantS_ok hs _) (unwantS_calm hc _)
  |exact Still.of (fetchS_ok hs _ _) (fetchS_calm hc _ _)
  |(exact absurd hf.1 hk)
  |(refine Still.of ⟨recs,hs.shop,?_⟩ ?_<;>(show _;simp only;rw [recT_calm hs hc];first|exact hs.tape|exact hc))
  |(refine Still.of ⟨recs,?_⟩ ?_<;>(simp only [hs.opens,recT_calm hs hc];first|exact hs|exact hc))
  |(cases numOf (w.getD 1 []) 9 with|none=>exact h|some n=>exact Still.of ⟨recs,hs⟩ hc)
  |(cases sumW (w.getD 0 []) with|none=>exact h|some n=>exact Still.of (dropS_ok hs _) (dropS_calm hc _))
  |(cases numOf (w.getD 3 []) 9 with|none=>exact h|some n=>cases sumW (w.getD 4 []) with|none=>exact h|some m=>exact Still.of (wantS_ok hs _) (wantS_calm hc _))
  |(cases P.kept with|none=>exact h|some s=>exact Still.of (loadS_ok hs _) (loadS_calm hc _))
theorem playW_still {P:PlayS} (h:Still P) (w:List (List UInt8)) (hk:w.headD []≠[102,97,105,108]):Still (playW P w).2.2:=by
 obtain ⟨recs,hs⟩:=h.has;unfold playW;split
 ·exact Still.of (ruleS_ok hs _) (ruleS_calm h.calm _)
 ·exact doW_still h _ _ hk
theorem lastS_still:∀(l:List (List UInt8)) (P:PlayS),Still P→(∀s∈l,(cutL 32 s).headD []≠[102,97,105,108])→Still (lastS P l)
 | [],_,h,_=>h
 |s::l,_,h,hl=>lastS_still l _ (playW_still h _ (hl s (List.mem_cons_self ..))) (fun x hx=>hl x (List.mem_cons_of_mem _ hx))
theorem linesS_anew (l:List (List UInt8)) (n:Nat) (hl:∀s∈l,(cutL 32 s).headD []≠[102,97,105,108]):
  linesS play0 (l.take n++[97,103,97,105,110]::l.drop n)=(linesS play0 l).take n++okW::(linesS play0 l).drop n:=by
 have hst:=lastS_still (l.take n) play0 play0_still (fun s hs=>hl s (List.mem_of_mem_take hs));have ha:lineS (lastS play0 (l.take n)) [97,103,97,105,110]=(okW,lastS play0 (l.take n)):=by
  unfold lineS;rw [cutL_again,again_same hst,if_neg (by simp)]
 rw [linesS_app,linesS_take,linesS_drop];congr 1;show (lineS (lastS play0 (l.take n)) [97,103,97,105,110]).1::linesS (lineS (lastS play0 (l.take n)) [97,103,97,105,110]).2 (l.drop n)=_;rw [ha]
theorem cutAt_none (l:List UInt8) (h:(58:UInt8)∉l):lkIs l=false:=by
 cases hb:lkIs l with
 |false=>rfl
 |true=>
  have e:=cutB (l:=l) (sep:=sepL) hb;exact absurd (by rw [e];simp [sepL]) h
theorem errTx_link (c:Nat):lkIs (errTx c)=false:=by
 by_cases h:c<14
 ·exact of_decide_eq_true (List.all_eq_true.1 (show ((List.range 14).all fun c=>decide (lkIs (errTx c)=false))=true by decide) c (List.mem_range.2 h))
 ·have:errTx c=errHead:=by
   unfold errTx;rw [List.getD_eq_getElem?_getD,List.getElem?_eq_none (by show 13≤c-1;omega)];rfl
  rw [this];decide
theorem link_if {c:Prop} [Decidable c] {a b:Nat×List UInt8×PlayS} (h1:c→lkIs a.2.1=false) (h2:¬c→lkIs b.2.1=false):lkIs (if c then a else b).2.1=false:=by
 by_cases h:c
 ·rw [if_pos h];exact h1 h
 ·rw [if_neg h];exact h2 h
theorem dec_link (n:Nat):lkIs (Lib.decDigits n)=false:=cutAt_none _ fun h=>by have:=decDigits_isD n _ h;unfold isD at this;simp at this
theorem sumTx_link (n:Int):lkIs (sumTx n)=false:=cutAt_none _ fun h=>by
 rcases List.mem_cons.1 h with h|h
 ·exact absurd h (by decide)
 ·have:=decDigits_isD _ _ h;unfold isD at this;simp at this
theorem part_link {x:List UInt8} (h:partB x=true):(58:UInt8)∉x:=by
 intro hx;unfold partB at h;simp only [Bool.and_eq_true] at h;have:=List.all_eq_true.1 h.2 _ hx;exact absurd this (by decide)
theorem join_link:∀(l:List (List UInt8)),l.all partB=true→(58:UInt8)∉ [47].intercalate l
 | [],_=>by simp [List.intercalate]
 | [x],h=>by
  rw [show [47].intercalate [x]=x by simp [List.intercalate]];exact part_link (by simpa using h)
 |x::y::r,h=>by
  rw [show [47].intercalate (x::y::r)=x++47::[47].intercalate (y::r) by simp [List.intercalate]];rw [List.all_cons,Bool.and_eq_true] at h;intro hm;rcases List.mem_append.1 hm with hm|hm
  ·exact part_link h.1 hm
  ·rcases List.mem_cons.1 hm with hm|hm
   ·exact absurd hm (by decide)
   ·exact join_link (y::r) h.2 hm
theorem clean_link (s:List UInt8):lkIs (if cleanT s=[] then [46] else cleanT s)=false:=by
 split
 ·decide
 ·refine cutAt_none _ ?_;unfold cleanT;split
  ·rename_i h;exact join_link _ (cleanE_parts h).2.2.1
  ·simp
theorem ok_link:lkIs okW=false:=by decide
theorem nil_link:lkIs []=false:=by decide
theorem nothing_link:lkIs (joinedL [])=false:=by decide
theorem doW_link (k:List UInt8) (w:List (List UInt8)):lkIs (doW play0 k w).2.1=false:=by
 unfold doW
 repeat' (refine link_if (fun _=>?_) (fun _=>?_))
 all_goals first
  |exact ok_link
  |exact nil_link
  |exact dec_link _
  |exact sumTx_link _
  |exact nothing_link
  |exact clean_link _
  |(cases numOf (w.getD 1 []) 9 with|none=>exact nil_link|some n=>exact ok_link)
  |(cases numOf (w.getD 0 []) 9 with|none=>exact nil_link|some n=>exact ok_link)
  |(cases sumW (w.getD 0 []) with|none=>exact nil_link|some n=>exact ok_link)
  |(cases numOf (w.getD 3 []) 9 with|none=>exact nil_link|some n=>cases sumW (w.getD 4 []) with|none=>exact nil_link|some m=>exact ok_link)
  |(show lkIs [32,45]=false;decide)
theorem playW_link (w:List (List UInt8)):lkIs (playW play0 w).2.1=false:=by
 unfold playW;split
 ·exact ok_link
 ·exact doW_link _ _
theorem linesS_first (l:List (List UInt8)) {z:List UInt8} (h:(linesS play0 l)[0]? =some z):lkIs z=false:=by
 cases l with
 |nil=>cases h
 |cons s l=>
  cases h;show lkIs (lineS play0 s).1=false;unfold lineS;dsimp only;split
  ·exact errTx_link _
  ·exact playW_link _
theorem first_ok {l:List (List UInt8)} (h:firstE l=0) (h0:l≠[]):∃t r,l=t::r∧lkIs t=true:=by
 cases l with
 |nil=>exact absurd rfl h0
 |cons t r=>
  refine ⟨t,r,rfl,?_⟩;unfold firstE at h;split at h
  ·rename_i hb;unfold beginE at hb;split at hb
   ·rename_i hl;unfold lkE at hl;split at hl
    ·cases hl
    ·rename_i h3;simp at h3;exact h3.1
   ·rename_i hl;exact absurd hb hl
  ·rename_i hb;exact absurd h hb
theorem rule_not {w:World} {B B2 g cap:Nat} {cur:Array Value} {ov tv:Value} {acc:List ByteArray} {rs:List RuleL} {r:RuleB} (hr:(rulesEr rs).code=0) (hm:ruleOf r∈rs) (hfl:(ruleOf r).2≠[]) (ho:w.ownsRow B2 9 1 ov acc.length (acc.map Value.string)) (hnil:acc=[]→ov=.slice none 0 0) (hl:∀z,acc[0]? =some z→lkIs (bl z)=false)
  (hg:ov.ownBlock=some g) (hc:w.heap[g]? =some (.cells cur 9 (0,0))) (ht:w.ownsRow B 9 1 tv r.2.length (r.2.map Value.string)) (hte:tv=.slice (some ⟨g,0,none⟩) r.2.length cap):False:=by
 have h1:oneE (ruleOf r)=0:=(rulesEr_zero hr).2.2 _ hm;have h2:firstE (ruleOf r).2=0:=by
  unfold oneE at h1;split at h1
  ·split at h1
   ·cases h1
   ·exact h1
  ·rename_i hb;exact absurd h1 hb
 obtain ⟨t,rr,e1,hlk⟩:=first_ok h2 hfl;rcases ho.2 with ⟨rfl,_⟩|⟨g1,c1,cur1,rfl,_,hg1,hn1,_,_,hk1⟩
 ·cases hg
 ·cases hg;rw [hc] at hg1
  cases hg1;rcases ht.2 with ⟨e,_⟩|⟨g2,c2,cur2,e,_,hg2,_,_,_,hk2⟩
  ·rw [hte] at e;cases e
  ·rw [hte] at e
   cases e;rw [hc] at hg2
   cases hg2
   cases acc with
   |nil=>have:=hnil rfl;cases this
   |cons a al=>
    have e3:(ruleOf r).2=r.2.map bl:=rfl
    cases hr2:r.2 with
    |nil=>rw [hr2] at e3;rw [e3] at e1;cases e1
    |cons b bs=>
     rw [hr2] at e3 hk2;rw [e3] at e1
     cases e1;have k1:cur.toList[0]? =some (.string a):=by have:=congrArg (fun l=>l[0]?) hk1;simpa using this
     have k2:cur.toList[0]? =some (.string b):=by have:=congrArg (fun l=>l[0]?) hk2;simpa using this
     rw [k1] at k2
     cases k2;rw [hl a rfl] at hlk
     cases hlk
end Go.Proofs.YtaabgmbjmfjdjaaGreatDoor
