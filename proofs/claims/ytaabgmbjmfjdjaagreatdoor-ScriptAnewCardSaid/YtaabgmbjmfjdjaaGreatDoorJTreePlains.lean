import Derived.Test.YtaabgmbjmfjdjaaGreatDoorJToldEtc
import Derived.Test.YtaabgmbjmfjdjaaGreatDoorJRanged
import Derived.Test.YtaabgmbjmfjdjaaGreatDoorJPlainly
import Derived.Lib.Bytealg
import Derived.Test.YtaabgmbjmfjdjaaGreatDoorJPackedUpEtc
namespace Go.Proofs.YtaabgmbjmfjdjaaGreatDoor
open Go
theorem less_eq:∀(x y:List UInt8),Op.bytesLess x y=decide (x<y)
 | [],[]=>by simp [Op.bytesLess]
 |_::_,[]=>by simp [Op.bytesLess]
 | [],_::_=>by simp [Op.bytesLess]
 |a::x,b::y=>by
  rw [Op.bytesLess,less_eq x y];simp only [List.cons_lt_cons_iff];by_cases h1:a<b<;>by_cases h2:a=b<;>by_cases h3:x<y<;>simp [h1,h2,h3]
theorem cmp_lt:∀(x y:List UInt8),(Lib.compareBytes x y<0↔x<y)∧(Lib.compareBytes x y=0↔x=y)
 | [],[]=>by simp [Lib.compareBytes]
 |_::_,[]=>by simp [Lib.compareBytes]
 | [],_::_=>by simp [Lib.compareBytes]
 |a::x,b::y=>by
  obtain ⟨i1,i2⟩:=cmp_lt x y;unfold Lib.compareBytes;rw [List.cons_lt_cons_iff,List.cons_eq_cons];by_cases h1:a<b
  ·rw [if_pos h1];have:a≠b:=fun e=>by subst e;exact absurd h1 (UInt8.lt_irrefl _)
   simp [h1,this]
  ·rw [if_neg h1];by_cases h2:b<a
   ·rw [if_pos h2];have:a≠b:=fun e=>by subst e;exact absurd h2 (UInt8.lt_irrefl _)
    simp [h1,this]
   ·rw [if_neg h2];have:a=b:=UInt8.le_antisymm (UInt8.not_lt.1 h2) (UInt8.not_lt.1 h1);subst this;simp [i1,i2]
def pLt (f g:FileB):Prop:=bl f.path<bl g.path
instance (f g:FileB):Decidable (pLt f g):=inferInstanceAs (Decidable (bl f.path<bl g.path))
theorem pLt.irrefl (f:FileB):¬pLt f f:=List.lt_irrefl _
theorem pLt.trans {f g h:FileB} (a:pLt f g) (b:pLt g h):pLt f h:=List.lt_trans a b
theorem pLt.ntrans {f g h:FileB} (a:¬pLt f g) (b:¬pLt g h):¬pLt f h:=fun c=>by
 have a':bl g.path≤bl f.path:=List.not_lt.1 a;have b':bl h.path≤bl g.path:=List.not_lt.1 b;exact List.not_lt.2 (List.le_trans b' a') c
theorem pLt.tri {f g:FileB} (a:¬pLt f g) (b:¬pLt g f):bl f.path=bl g.path:=List.le_antisymm (List.not_lt.1 b) (List.not_lt.1 a)
theorem pLt.asymm {f g:FileB} (a:pLt f g):¬pLt g f:=fun b=>pLt.irrefl f (a.trans b)
theorem takeWhile_all {α:Type} {p:α→Bool}:∀{l:List α} {x:α},x∈l.takeWhile p→p x=true
 | [],_,h=>by cases h
 |y::l,x,h=>by
  rw [List.takeWhile_cons] at h;split at h
  ·rename_i hy;rcases List.mem_cons.1 h with rfl|h
   ·exact hy
   ·exact takeWhile_all h
  ·cases h
def backIx (x:FileB) (out:List FileB):Nat:=out.length- (out.reverse.takeWhile (fun y=>decide (pLt x y))).length
def insB (out:List FileB) (x:FileB):List FileB:=out.take (backIx x out)++[x]++out.drop (backIx x out)
def isort (l:List FileB):List FileB:=l.foldl insB []
theorem insB_perm (out:List FileB) (x:FileB):(insB out x).Perm (x::out):=by
 unfold insB;have h:(out.take (backIx x out)++out.drop (backIx x out))=out:=List.take_append_drop _ _;rw [List.append_assoc];refine List.Perm.trans List.perm_middle ?_;show (x::(out.take (backIx x out)++out.drop (backIx x out))).Perm (x::out);rw [h]
theorem isort_perm_aux:∀(l out:List FileB),(l.foldl insB out).Perm (l++out)
 | [],out=>List.Perm.refl _
 |x::l,out=>by
  rw [List.foldl_cons];refine (isort_perm_aux l (insB out x)).trans ?_;refine ((insB_perm out x).append_left l).trans ?_;exact List.perm_middle
theorem isort_perm (l:List FileB):(isort l).Perm l:=by have:=isort_perm_aux l [];rwa [List.append_nil] at this
def Asc (l:List FileB):Prop:=l.Pairwise fun f g=>¬pLt g f
def Strict (l:List FileB):Prop:=l.Pairwise pLt
theorem backIx_spec (x:FileB) (out:List FileB) (h:Asc out):(∀y∈out.take (backIx x out),¬pLt x y)∧(∀y∈out.drop (backIx x out),pLt x y):=by
 have e:out.drop (backIx x out)=(out.reverse.takeWhile (fun y=>decide (pLt x y))).reverse:=by
  have h1:out=(out.reverse.dropWhile (fun y=>decide (pLt x y))).reverse++(out.reverse.takeWhile (fun y=>decide (pLt x y))).reverse:=by
   rw [←List.reverse_append,List.takeWhile_append_dropWhile,List.reverse_reverse]
  have h2:backIx x out=(out.reverse.dropWhile (fun y=>decide (pLt x y))).reverse.length:=by
   unfold backIx;have h3:=congrArg List.length h1;rw [List.length_append,List.length_reverse,List.length_reverse] at h3;rw [List.length_reverse];omega
  conv=>lhs;rw [h2];arg 2;rw [h1]
  rw [List.drop_left]
 have e2:out.take (backIx x out)=(out.reverse.dropWhile (fun y=>decide (pLt x y))).reverse:=by
  have h1:out=(out.reverse.dropWhile (fun y=>decide (pLt x y))).reverse++(out.reverse.takeWhile (fun y=>decide (pLt x y))).reverse:=by
   rw [←List.reverse_append,List.takeWhile_append_dropWhile,List.reverse_reverse]
  have h2:backIx x out=(out.reverse.dropWhile (fun y=>decide (pLt x y))).reverse.length:=by
   unfold backIx;have h3:=congrArg List.length h1;rw [List.length_append,List.length_reverse,List.length_reverse] at h3;rw [List.length_reverse];omega
  conv=>lhs;rw [h2];arg 2;rw [h1]
  rw [List.take_left]
 refine ⟨fun y hy=>?_,fun y hy=>?_⟩
 ·rw [e2] at hy
  cases hd:out.reverse.dropWhile (fun y=>decide (pLt x y)) with
  |nil=>rw [hd] at hy;cases hy
  |cons z t=>
   have hz:¬pLt x z:=by
    have:=List.head?_dropWhile_not (p:=fun y=>decide (pLt x y)) (l:=out.reverse);rw [hd] at this;simpa using this
   rw [hd] at hy;have hs:Asc ((z::t).reverse):=by
    have:((z::t).reverse).Sublist out:=by
     have h4:(z::t).Sublist out.reverse:=by rw [←hd];exact List.dropWhile_sublist _
     have:=h4.reverse;rwa [List.reverse_reverse] at this
    exact h.sublist this
   rw [List.reverse_cons] at hs hy;rcases List.mem_append.1 hy with hy|hy
   ·have:=(List.pairwise_append.1 hs).2.2 y hy z (by simp);exact pLt.ntrans hz this
   ·simp only [List.mem_singleton] at hy;subst hy;exact hz
 ·rw [e,List.mem_reverse] at hy;have:=takeWhile_all hy;simpa using this
theorem insB_asc {out:List FileB} (x:FileB) (h:Asc out):Asc (insB out x):=by
 obtain ⟨h1,h2⟩:=backIx_spec x out h;unfold insB Asc;rw [List.append_assoc];refine List.pairwise_append.2 ⟨h.sublist (List.take_sublist _ _),?_,?_⟩
 ·refine List.pairwise_append.2 ⟨by simp,h.sublist (List.drop_sublist _ _),fun a ha b hb=>?_⟩;simp only [List.mem_singleton] at ha;subst ha;exact (h2 b hb).asymm
 ·intro a ha b hb;rcases List.mem_append.1 hb with hb|hb
  ·simp only [List.mem_singleton] at hb;subst hb;exact h1 a ha
  ·have:=List.take_append_drop (backIx x out) out;unfold Asc at h;rw [←this] at h;exact (List.pairwise_append.1 h).2.2 a ha b hb
theorem isort_asc_aux:∀(l out:List FileB),Asc out→Asc (l.foldl insB out)
 | [],_,h=>h
 |x::l,_,h=>isort_asc_aux l _ (insB_asc x h)
theorem isort_asc (l:List FileB):Asc (isort l):=isort_asc_aux l [] List.Pairwise.nil
def dupB:List FileB→Bool
 |f::g::l=>decide (f.path=g.path)||dupB (g::l)
 |_=>false
theorem strict_of:∀{l:List FileB},Asc l→dupB l=false→Strict l
 | [],_,_=>List.Pairwise.nil
 | [f],_,_=>List.pairwise_singleton _ _
 |f::g::l,h,hd=>by
  unfold dupB at hd;rw [Bool.or_eq_false_iff] at hd;have ih:=strict_of (List.Pairwise.of_cons h) hd.2;have hfg:pLt f g:=by
   have h1:=(List.pairwise_cons.1 h).1 g (List.mem_cons_self ..);have hne:f.path≠g.path:=by simpa using hd.1
   exact Classical.byContradiction fun hn=>hne (bl_inj (pLt.tri hn h1))
  refine List.pairwise_cons.2 ⟨fun y hy=>?_,ih⟩;rcases List.mem_cons.1 hy with rfl|hy
  ·exact hfg
  ·exact hfg.trans ((List.pairwise_cons.1 ih).1 y hy)
theorem Strict.asc {l:List FileB} (h:Strict l):Asc l:=h.imp fun h=>h.asymm
theorem Strict.dup:∀{l:List FileB},Strict l→dupB l=false
 | [],_=>rfl
 | [f],_=>rfl
 |f::g::l,h=>by
  unfold dupB;rw [Strict.dup (List.Pairwise.of_cons h),Bool.or_false];have:=(List.pairwise_cons.1 h).1 g (List.mem_cons_self ..);refine decide_eq_false fun e=>?_
  unfold pLt at this;rw [e] at this;exact List.lt_irrefl _ this
theorem strict_unique:∀{l m:List FileB},Strict l→Strict m→l.Perm m→l=m
 | [],m,_,_,h=>(List.nil_perm.1 h).symm
 |f::l,[],_,_,h=>absurd h (by simp)
 |f::l,g::m,h1,h2,h=>by
  have hf:f∈g::m:=h.subset (List.mem_cons_self ..);have hg:g∈f::l:=h.symm.subset (List.mem_cons_self ..);have e:f=g:=by
   rcases List.mem_cons.1 hf with e|hf
   ·exact e
   ·rcases List.mem_cons.1 hg with e|hg
    ·exact e.symm
    ·exact absurd ((List.pairwise_cons.1 h1).1 g hg) ((List.pairwise_cons.1 h2).1 f hf).asymm
  subst e;rw [strict_unique (List.Pairwise.of_cons h1) (List.Pairwise.of_cons h2) (List.Perm.cons_inv h)]
theorem dup_perm {l m:List FileB} (h1:Asc l) (h2:Asc m) (h:l.Perm m):dupB l=dupB m:=by
 have key:∀{l m:List FileB},Asc l→Asc m→l.Perm m→dupB l=false→dupB m=false:=by
  intro l m h1 h2 h hd;have hs:=strict_of h1 hd;have hn:l.Pairwise (fun a b=>a.path≠b.path):=hs.imp fun {a b} hab e=>by unfold pLt at hab;rw [e] at hab;exact List.lt_irrefl _ hab
  have hm:m.Pairwise (fun a b=>a.path≠b.path):=(h.pairwise_iff fun {a b} hab=>hab.symm).1 hn;have hms:Strict m:=by
   refine (List.pairwise_and_iff.2 ⟨h2,hm⟩).imp fun {a b} hab=>?_
   exact Classical.byContradiction fun hn=>hab.2 (bl_inj (pLt.tri hn hab.1))
  exact hms.dup
 cases hl:dupB l with
 |false=>exact (key h1 h2 h hl).symm
 |true=>
  cases hm:dupB m with
  |true=>rfl
  |false=>rw [key h2 h1 h.symm hm] at hl;cases hl
def sortT (l:List FileB):Er×List FileB:=
 if dupB (isort l)=true then (⟨7,none⟩,[])
 else if (treeEr (isort l)).code≠0 then (treeEr (isort l),[])
 else (⟨0,none⟩,isort l)
theorem sortT_any {l m:List FileB} (h:m.Perm l) (ha:Asc m):dupB m=dupB (isort l)∧(dupB m=false→m=isort l):=by
 have hp:=h.trans (isort_perm l).symm;have hd:=dup_perm ha (isort_asc l) hp;exact ⟨hd,fun h0=>strict_unique (strict_of ha h0) (strict_of (isort_asc l) (hd▸h0)) hp⟩
def dropL (l:List FileB) (p:ByteArray):List FileB:=l.filter fun g=>!decide (g.path=p)
def cutP (d:ByteArray) (f:FileB):FileB:=if d=⟨#[]⟩ then f else {f with path:=⟨((bl f.path).drop (d.size+1)).toArray⟩}
def underL (l:List FileB) (d:ByteArray):List FileB:=(l.filter fun g=>inB (bl g.path) (bl d)).map (cutP d)
def underT (l:List FileB) (d:ByteArray):Er×List FileB:=if (treeEr l).code≠0 then (treeEr l,[]) else (⟨0,none⟩,underL l d)
def joinF (d:ByteArray) (f:FileB):FileB:={f with path:=⟨(cleanT (joinS (bl d) (bl f.path))).toArray⟩}
def joinEr (d:ByteArray) (m:List FileB):Nat:=match m.find? (fun f=>decide (cleanE (joinS (bl d) (bl f.path))≠0)) with
 |some f=>cleanE (joinS (bl d) (bl f.path))
 |none=>0
def bareE (r:Er×List FileB):Er×List FileB:=(⟨r.1.code,none⟩,r.2)
def graftT (l:List FileB) (d:ByteArray) (m:List FileB):Er×List FileB:=
 if (treeEr l).code≠0 then (treeEr l,[])
 else if (treeEr m).code≠0 then (treeEr m,[])
 else if partsE (bl d)≠0 then (⟨partsE (bl d),none⟩,[])
 else if joinEr d m≠0 then (⟨joinEr d m,none⟩,[])
 else bareE (sortT (l++m.map (joinF d)))
def stripF (n:Int) (f:FileB):FileB:={f with path:=⟨(stripT (bl f.path) n).toArray⟩}
def stripIx (n:Int) (l:List FileB):Option Nat:=l.findIdx? fun f=>decide (stripE (bl f.path) n≠0)
def stripTr (l:List FileB) (n:Int):Er×List FileB:=
 if (treeEr l).code≠0 then (treeEr l,[])
 else match stripIx n l with
  |some i=>(⟨stripE (bl ((l.getD i ⟨⟨#[]⟩,false,⟨#[]⟩⟩).path)) n,some i⟩,[])
  |none=>sortT (l.map (stripF n))
def NoClash (l:List FileB):Prop:=l.Pairwise fun g f=>inB (bl f.path) (bl g.path)=false
structure TreeOk (l:List FileB):Prop where
 few:l.length≤30
 all:allText l≤12000
 each:∀f∈l,partsE (bl f.path)=0∧f.text.size≤4000
 strict:Strict l
 apart:NoClash l
theorem leqB_false (a b:List UInt8):leqB a b=false↔b<a:=by
 unfold leqB;rw [less_eq,Bool.or_eq_false_iff,decide_eq_false_iff_not,beq_eq_false_iff_ne];constructor
 ·rintro ⟨h1,h2⟩;rcases List.le_iff_lt_or_eq.1 (List.not_lt.1 h1) with h|h
  ·exact h
  ·exact absurd h.symm h2
 ·intro h;exact ⟨List.not_lt.2 (List.le_of_lt h),fun e=>by subst e;exact List.lt_irrefl _ h⟩
theorem after_iff {ahead:List FileB} {f:FileB} (h:Strict ahead):afterB ahead (bl f.path)=false↔Strict (ahead++[f]):=by
 unfold Strict;rw [List.pairwise_append]
 cases hl:ahead.getLast? with
 |none=>
  have:ahead=[]:=List.getLast?_eq_none_iff.1 hl;subst this;simp [afterB]
 |some g=>
  rw [afterB_some hl,leqB_false];obtain ⟨ys,rfl⟩:=List.getLast?_eq_some_iff.1 hl;constructor
  ·intro hg;refine ⟨h,List.pairwise_singleton _ _,fun a ha b hb=>?_⟩;obtain rfl:=List.mem_singleton.1 hb;rcases List.mem_append.1 ha with ha|ha
   ·exact ((List.pairwise_append.1 h).2.2 a ha g (by simp)).trans hg
   ·obtain rfl:=List.mem_singleton.1 ha;exact hg
  ·rintro ⟨_,_,h3⟩;exact h3 g (by simp) f (by simp)
theorem fileE_iff {ahead:List FileB} {f:FileB}:fileE ahead f=0↔partsE (bl f.path)=0∧f.text.size≤4000∧afterB ahead (bl f.path)=false∧ahead.any (fun g=>inB (bl f.path) (bl g.path))=false:=by
 unfold fileE;by_cases h1:partsE (bl f.path)=0
 ·rw [if_neg (by simp [h1])];by_cases h2:4000<f.text.size
  ·rw [if_pos h2];constructor
   ·intro h;cases h
   ·rintro ⟨_,h,_⟩;omega
  ·rw [if_neg h2]
   cases h3:afterB ahead (bl f.path) with
   |true=>simp
   |false=>
    cases h4:ahead.any (fun g=>inB (bl f.path) (bl g.path)) with
    |true=>simp
    |false=>simp [h1];omega
 ·rw [if_pos h1];constructor
  ·intro h;exact absurd h h1
  ·rintro ⟨h,_⟩;exact absurd h h1
theorem filesE_iff:∀(l ahead:List FileB) (i:Nat),Strict ahead→NoClash ahead→(filesE ahead i l=none↔(∀f∈l,partsE (bl f.path)=0∧f.text.size≤4000)∧Strict (ahead++l)∧NoClash (ahead++l))
 | [],ahead,i,h1,h2=>by simp [filesE,h1,h2]
 |f::l,ahead,i,h1,h2=>by
  unfold filesE;by_cases h:fileE ahead f=0
  ·rw [if_pos h];obtain ⟨a,b,c,d⟩:=fileE_iff.1 h;have hs:=(after_iff h1).1 c;have hn:NoClash (ahead++[f]):=by
    refine List.pairwise_append.2 ⟨h2,List.pairwise_singleton _ _,fun x hx y hy=>?_⟩;obtain rfl:=List.mem_singleton.1 hy;have:=List.any_eq_false.1 d x hx;simpa using this
   rw [filesE_iff l (ahead++[f]) (i+1) hs hn,List.append_assoc,List.singleton_append];constructor
   ·rintro ⟨q1,q2,q3⟩;refine ⟨fun x hx=>?_,q2,q3⟩;rcases List.mem_cons.1 hx with rfl|hx
    ·exact ⟨a,b⟩
    ·exact q1 x hx
   ·rintro ⟨q1,q2,q3⟩;exact ⟨fun x hx=>q1 x (List.mem_cons_of_mem _ hx),q2,q3⟩
  ·rw [if_neg h];constructor
   ·intro e;cases e
   ·rintro ⟨q1,q2,q3⟩;refine absurd (fileE_iff.2 ⟨(q1 f (List.mem_cons_self ..)).1,(q1 f (List.mem_cons_self ..)).2,(after_iff h1).2 ?_,?_⟩) h
    ·refine q2.sublist ?_;exact List.Sublist.append (List.Sublist.refl _) (by simp)
    ·rw [List.any_eq_false];intro x hx;have:=(List.pairwise_append.1 q3).2.2 x hx f (List.mem_cons_self ..);simpa using this
theorem treeOk_iff (l:List FileB):(treeEr l).code=0↔TreeOk l:=by
 have hi:=filesE_iff l [] 0 List.Pairwise.nil List.Pairwise.nil;rw [List.nil_append] at hi;constructor
 ·intro h;obtain ⟨_,h1,h2,h3⟩:=treeEr_zero h;have hf:filesE [] 0 l=none:=by
   unfold treeEr at h;rw [if_neg (by omega)] at h
   cases hf:filesE [] 0 l with
   |none=>rfl
   |some p=>rw [hf] at h;exact absurd h (filesE_some l [] 0 p hf)
  obtain ⟨a,b,c⟩:=hi.1 hf;exact ⟨h1,h2,a,b,c⟩
 ·rintro ⟨h1,h2,h3,h4,h5⟩;unfold treeEr;rw [if_neg (by omega),hi.2 ⟨h3,h4,h5⟩];simp only;rw [if_neg (by omega)]
theorem TreeOk.er {l:List FileB} (h:TreeOk l):treeEr l=⟨0,none⟩:=(treeEr_zero ((treeOk_iff l).2 h)).1
theorem allText_sub {l m:List FileB} (h:l.Sublist m):allText l≤allText m:=by
 induction h with
 |slnil=>exact Nat.le_refl _
 |cons a _ ih=>simp only [allText,List.map_cons,List.sum_cons] at*;omega
 |cons_cons a _ ih=>simp only [allText,List.map_cons,List.sum_cons] at*;omega
theorem TreeOk.sub {l m:List FileB} (h:TreeOk m) (hs:l.Sublist m):TreeOk l:=
 ⟨Nat.le_trans hs.length_le h.few,Nat.le_trans (allText_sub hs) h.all,fun f hf=>h.each f (hs.subset hf),h.strict.sublist hs,h.apart.sublist hs⟩
theorem isort_strict {l:List FileB} (h:Strict l):isort l=l:=strict_unique (strict_of (isort_asc l) (by rw [dup_perm (isort_asc l) h.asc (isort_perm l)];exact h.dup)) h (isort_perm l)
theorem Strict.paths {l:List FileB} (h:Strict l):l.Pairwise fun f g=>f.path≠g.path:=h.imp fun {a b} hab e=>by unfold pLt at hab;rw [e] at hab;exact List.lt_irrefl _ hab
theorem sortT_ok {l:List FileB} (h:(sortT l).1.code=0):sortT l=(⟨0,none⟩,isort l)∧TreeOk (isort l):=by
 unfold sortT at h⊢;by_cases hd:dupB (isort l)=true
 ·rw [if_pos hd] at h;cases h
 ·rw [if_neg hd] at h⊢;by_cases ht:(treeEr (isort l)).code≠0
  ·rw [if_pos ht] at h;exact absurd h ht
  ·rw [if_neg ht];exact ⟨rfl,(treeOk_iff _).1 (by simpa using ht)⟩
theorem stripTr_ok {l:List FileB} {n:Int} (h:(stripTr l n).1.code=0):(stripTr l n).1=⟨0,none⟩∧TreeOk (stripTr l n).2:=by
 unfold stripTr at h⊢;by_cases h1:(treeEr l).code≠0
 ·rw [if_pos h1] at h;exact absurd h h1
 rw [if_neg h1] at h⊢
 cases hi:stripIx n l with
 |some i=>
  rw [hi] at h;unfold stripIx at hi;obtain ⟨hlt,hp,_⟩:=List.findIdx?_eq_some_iff_getElem.1 hi;simp only [ne_eq,decide_not,Bool.not_eq_eq_eq_not,Bool.not_true,decide_eq_false_iff_not] at hp;simp only [List.getD_eq_getElem?_getD,List.getElem?_eq_getElem hlt,Option.getD_some] at h;exact absurd h hp
 |none=>
  rw [hi] at h;simp only at h⊢;obtain ⟨e,ok⟩:=sortT_ok h;rw [e];exact ⟨rfl,ok⟩
theorem tree_inB_join {d c:List UInt8} (hd:partsE d=0) (hp:partsE (d++47::c)=0):inB (d++47::c) d=true:=by
 unfold inB;have hx:Lib.hasPrefix (d++47::c) (d++[47])=true:=by
  rw [show d++47::c=(d++[47])++c by simp];exact hasPrefix_of _ _
 rw [hp,hd,hx];simp
theorem path_clean {s:List UInt8} (h:partsE s=0):cleanE s=0∧cleanT s=s:=by
 obtain ⟨h1,h2⟩:=partsE_ok h;have h3:s.head?≠some 47:=by
  have:=head_of_parts h1 [] (cutL_ne 47 s);rwa [List.append_nil,cutL_join] at this
 have h4:=cleanW_keep (cutL 47 s) [] h1;rw [List.nil_append,if_neg (by omega)] at h4;have h5:cleanE s=0:=by unfold cleanE;rw [if_neg h3,h4]
 exact ⟨h5,by unfold cleanT;rw [h5,h4];simp only [if_true];exact cutL_join 47 s⟩
theorem parts_ne {s:List UInt8} (h:partsE s=0):s≠[]:=fun e=>by subst e;rw [partsE_nil] at h;cases h
theorem join_path {d s:List UInt8} (hd:partsE d=0) (hs:partsE s=0) (h:cleanE (joinS d s)=0):cleanT (joinS d s)=d++47::s∧partsE (d++47::s)=0:=by
 obtain ⟨c1,c2⟩:=path_clean hs;have:=(join_in hd c1 (by rw [c2];exact parts_ne hs)).2 h;rw [c2] at this;obtain ⟨_,_,e,p⟩:=this;exact ⟨e,e▸p⟩
theorem mk_bl (s:ByteArray):(⟨(bl s).toArray⟩:ByteArray)=s:=bl_inj rfl
theorem joinF_path {d:ByteArray} {f:FileB} (hd:partsE (bl d)=0) (hs:partsE (bl f.path)=0) (h:cleanE (joinS (bl d) (bl f.path))=0):bl (joinF d f).path=bl d++47::bl f.path:=by
 show bl ⟨_⟩=_;rw [bl_mk,(join_path hd hs h).1]
theorem joinEr_zero {d:ByteArray} {m:List FileB}:joinEr d m=0↔∀f∈m,cleanE (joinS (bl d) (bl f.path))=0:=by
 unfold joinEr
 cases h:m.find? (fun f=>decide (cleanE (joinS (bl d) (bl f.path))≠0)) with
 |none=>
  simp only [true_iff];intro f hf;have:=List.find?_eq_none.1 h f hf;simpa using this
 |some f=>
  have h1:=List.find?_some h;have h2:=List.mem_of_find?_eq_some h;simp only [ne_eq,decide_not,Bool.not_eq_eq_eq_not,Bool.not_true,decide_eq_false_iff_not] at h1;constructor
  ·intro e;exact absurd e h1
  ·intro e;exact absurd (e f h2) h1
structure Grafted (l:List FileB) (d:ByteArray) (m t:List FileB):Prop where
 hl:TreeOk l
 hm:TreeOk m
 hd:partsE (bl d)=0
 joins:∀f∈m,cleanE (joinS (bl d) (bl f.path))=0
 eq:t=isort (l++m.map (joinF d))
 ok:TreeOk t
theorem graft_ok {l m:List FileB} {d:ByteArray} (h:(graftT l d m).1.code=0):Grafted l d m (graftT l d m).2∧(graftT l d m).1=⟨0,none⟩:=by
 unfold graftT at h⊢;by_cases h1:(treeEr l).code≠0
 ·rw [if_pos h1] at h;exact absurd h h1
 rw [if_neg h1] at h⊢;by_cases h2:(treeEr m).code≠0
 ·rw [if_pos h2] at h;exact absurd h h2
 rw [if_neg h2] at h⊢;by_cases h3:partsE (bl d)≠0
 ·rw [if_pos h3] at h;exact absurd h h3
 rw [if_neg h3] at h⊢;by_cases h4:joinEr d m≠0
 ·rw [if_pos h4] at h;exact absurd h h4
 rw [if_neg h4] at h⊢;have h5:(sortT (l++m.map (joinF d))).1.code=0:=h;obtain ⟨e,ok⟩:=sortT_ok h5;refine ⟨⟨(treeOk_iff l).1 (by simpa using h1),(treeOk_iff m).1 (by simpa using h2),by simpa using h3,joinEr_zero.1 (by simpa using h4),?_,?_⟩,?_⟩
 ·show (sortT _).2=_;rw [e]
 ·show TreeOk (sortT _).2;rw [e];exact ok
 ·show (⟨(sortT _).1.code,none⟩:Er)=_;rw [h5]
theorem Grafted.perm {l m t:List FileB} {d:ByteArray} (h:Grafted l d m t):t.Perm (l++m.map (joinF d)):=by rw [h.eq];exact isort_perm _
theorem Grafted.path {l m t:List FileB} {d:ByteArray} (h:Grafted l d m t) {f:FileB} (hf:f∈m):bl (joinF d f).path=bl d++47::bl f.path∧partsE (bl d++47::bl f.path)=0:=
 ⟨joinF_path h.hd (h.hm.each f hf).1 (h.joins f hf),(join_path h.hd (h.hm.each f hf).1 (h.joins f hf)).2⟩
theorem Grafted.isIn {l m t:List FileB} {d:ByteArray} (h:Grafted l d m t) {f:FileB} (hf:f∈m):inB (bl (joinF d f).path) (bl d)=true:=by
 rw [(h.path hf).1];exact tree_inB_join h.hd (h.path hf).2
theorem d_ne {d:ByteArray} (hd:partsE (bl d)=0):d≠⟨#[]⟩:=fun e=>parts_ne hd (by rw [e];rfl)
theorem Grafted.cut {l m t:List FileB} {d:ByteArray} (h:Grafted l d m t) {f:FileB} (hf:f∈m):cutP d (joinF d f)=f:=by
 unfold cutP;rw [if_neg (d_ne h.hd),(h.path hf).1];have e:(bl d++47::bl f.path).drop (d.size+1)=bl f.path:=by
  rw [←bl_length,←List.drop_drop,List.drop_left];rfl
 rw [e,mk_bl];rfl
theorem Grafted.mine {l m t:List FileB} {d:ByteArray} (h:Grafted l d m t):(m.map (joinF d)).filter (fun g=>inB (bl g.path) (bl d))=m.map (joinF d):=by
 rw [List.filter_eq_self];intro g hg;obtain ⟨f,hf,rfl⟩:=List.mem_map.1 hg;exact h.isIn hf
theorem Grafted.strict {l m t:List FileB} {d:ByteArray} (h:Grafted l d m t):Strict (m.map (joinF d)):=by
 unfold Strict;rw [List.pairwise_map];refine (List.pairwise_iff_forall_sublist.2 fun {a b} hab=>?_);have ha:=hab.subset (List.mem_cons_self ..);have hb:=hab.subset (List.mem_cons_of_mem _ (List.mem_cons_self ..));have hlt:pLt a b:=by
  have:=h.hm.strict.sublist hab;exact (List.pairwise_cons.1 this).1 b (List.mem_cons_self ..)
 unfold pLt at hlt⊢;rw [(h.path ha).1,(h.path hb).1];have key:∀(p x y:List UInt8),x<y→p++x<p++y:=by
  intro p x y hxy;induction p with
  |nil=>exact hxy
  |cons c p ih=>exact List.cons_lt_cons_iff.2 (.inr ⟨rfl,ih⟩)
 exact key _ _ _ (List.cons_lt_cons_iff.2 (.inr ⟨rfl,hlt⟩))
theorem Grafted.underEq {l m t:List FileB} {d:ByteArray} (h:Grafted l d m t) (h0:(underL l d).length=0):underL t d=m:=by
 unfold underL at h0⊢;rw [List.length_map] at h0;have h1:=List.eq_nil_of_length_eq_zero h0;have hp:(t.filter fun g=>inB (bl g.path) (bl d)).Perm (m.map (joinF d)):=by
  have:=h.perm.filter (fun g=>inB (bl g.path) (bl d));rwa [List.filter_append,h1,List.nil_append,h.mine] at this
 rw [strict_unique (h.ok.strict.sublist List.filter_sublist) h.strict hp,List.map_map]
 conv=>rhs;rw [←List.map_id m]
 exact List.map_congr_left fun f hf=>h.cut hf
structure PutAt (l:List FileB) (x:FileB) (A C p:List FileB):Prop where
 eq:p=A++x::C
 hA:∀y∈A,pLt y x
 hC:∀y∈C,pLt x y
 less:dropL l x.path=A++C
theorem path_ne_of {f g:FileB} (h:pLt f g):f.path≠g.path:=fun e=>by unfold pLt at h;rw [e] at h;exact List.lt_irrefl _ h
theorem drop_keep {l:List FileB} {p:ByteArray} (h:∀y∈l,y.path≠p):dropL l p=l:=by
 unfold dropL;rw [List.filter_eq_self];intro y hy;simpa using h y hy
theorem PutAt.only {l A C p:List FileB} {x:FileB} (h:PutAt l x A C p):∀y∈p,y.path=x.path→y=x:=by
 intro y hy he;rw [h.eq] at hy;rcases List.mem_append.1 hy with hy|hy
 ·exact absurd he (path_ne_of (h.hA y hy))
 ·rcases List.mem_cons.1 hy with rfl|hy
  ·rfl
  ·exact absurd he.symm (path_ne_of (h.hC y hy))
theorem PutAt.once {l A C p:List FileB} {x:FileB} (h:PutAt l x A C p):(p.filter fun y=>decide (y.path=x.path))=[x]:=by
 rw [h.eq,List.filter_append,List.filter_cons];have h1:A.filter (fun y=>decide (y.path=x.path))=[]:=List.filter_eq_nil_iff.2 fun y hy=>by simpa using path_ne_of (h.hA y hy)
 have h2:C.filter (fun y=>decide (y.path=x.path))=[]:=List.filter_eq_nil_iff.2 fun y hy=>by simpa using (path_ne_of (h.hC y hy)).symm
 rw [h1,h2];simp
theorem PutAt.dropped {l A C p:List FileB} {x:FileB} (h:PutAt l x A C p):dropL p x.path=A++C∧p.length=(A++C).length+1:=by
 refine ⟨?_,by rw [h.eq];simp;omega⟩;rw [h.eq];unfold dropL;rw [List.filter_append,List.filter_cons];have h1:=drop_keep (l:=A) (p:=x.path) fun y hy=>path_ne_of (h.hA y hy)
 have h2:=drop_keep (l:=C) (p:=x.path) fun y hy=>(path_ne_of (h.hC y hy)).symm
 unfold dropL at h1 h2;rw [h1,h2];simp
theorem not_in {a b q:List UInt8} (ha:partsE a=0) (hb:partsE b=0) (hne:a≠b) (h1:inB a b=false) (h2:inB b a=false):inB (b++47::q) a=false:=by
 have key:Lib.hasPrefix (b++47::q) (a++[47])=false:=by
  cases h:Lib.hasPrefix (b++47::q) (a++[47]) with
  |false=>rfl
  |true=>
   have e:=hasPrefix_app h;generalize (b++47::q).drop (a++[47]).length=r at e;rw [List.append_assoc,List.singleton_append] at e;rcases List.append_eq_append_iff.1 e with ⟨c,e1,e2⟩|⟨c,e1,e2⟩
   ·cases c with
    |nil=>rw [List.append_nil] at e1;exact absurd e1 hne
    |cons x c=>
     rw [List.cons_append] at e2;obtain ⟨rfl,_⟩:=List.cons_eq_cons.1 e2;rw [e1] at ha h1;rw [tree_inB_join hb ha] at h1;cases h1
   ·cases c with
    |nil=>rw [List.append_nil] at e1;exact absurd e1.symm hne
    |cons x c=>
     rw [List.cons_append] at e2;obtain ⟨rfl,_⟩:=List.cons_eq_cons.1 e2;rw [e1] at hb h2;rw [tree_inB_join ha hb] at h2;cases h2
 unfold inB;rw [key];simp only [Bool.and_false,Bool.or_false];have:decide (a=[])=false:=decide_eq_false (parts_ne ha);rw [this,Bool.and_false]
theorem Grafted.alone {l x:List FileB} {a:ByteArray} (h:Grafted [] a l x):x=l.map (joinF a):=by
 rw [h.eq,List.nil_append];exact isort_strict h.strict
theorem Grafted.strips {l x:List FileB} {a:ByteArray} (h:Grafted [] a l x):stripTr x ((cutL 47 (bl a)).length:Nat)=(⟨0,none⟩,l):=by
 have e:=h.alone;unfold stripTr;rw [if_neg (by rw [h.ok.er];simp)];have hlen:∀f∈l,(cutL 47 (bl a)).length<(cutL 47 (bl (joinF a f).path)).length:=fun f hf=>by
  rw [(h.path hf).1,cutL_app,List.length_append];have:=List.length_pos_iff.2 (cutL_ne 47 (bl f.path));omega
 have hpar:∀f∈l,partsE (bl (joinF a f).path)=0:=fun f hf=>by rw [(h.path hf).1];exact (h.path hf).2
 have hix:stripIx ((cutL 47 (bl a)).length:Nat) x=none:=by
  unfold stripIx;rw [List.findIdx?_eq_none_iff,e];intro g hg;obtain ⟨f,hf,rfl⟩:=List.mem_map.1 hg;have:=(strip_ok_iff (hpar f hf)).2 (hlen f hf);simpa using this
 rw [hix];simp only;have hm:x.map (stripF ((cutL 47 (bl a)).length:Nat))=l:=by
  rw [e,List.map_map]
  conv=>rhs;rw [←List.map_id l]
  refine List.map_congr_left fun f hf=>?_
  show ({(joinF a f) with path:=⟨(stripT (bl (joinF a f).path) _).toArray⟩}:FileB)=f;rw [(strip_parts (hpar f hf) (hlen f hf)).1,(h.path hf).1,cutL_app,List.drop_left,cutL_join,mk_bl];rfl
 rw [hm];unfold sortT;rw [isort_strict h.hm.strict,if_neg (by rw [h.hm.strict.dup];simp),if_neg (by rw [h.hm.er];simp)]
theorem Grafted.two {l m x z:List FileB} {a b:ByteArray} (h:Grafted [] a l x) (hz:Grafted x b m z) (hne:a≠b) (h1:inB (bl a) (bl b)=false) (h2:inB (bl b) (bl a)=false):
  underL z a=l∧underL z b=m:=by
 have hne':bl a≠bl b:=fun e=>hne (bl_inj e)
 have e:=h.alone;constructor
 ·have hx:x.filter (fun g=>inB (bl g.path) (bl a))=x:=by rw [e];exact h.mine
  have hm:(m.map (joinF b)).filter (fun g=>inB (bl g.path) (bl a))=[]:=List.filter_eq_nil_iff.2 fun g hg=>by
   obtain ⟨f,hf,rfl⟩:=List.mem_map.1 hg;rw [(hz.path hf).1,not_in h.hd hz.hd hne' h1 h2];simp
  have hp:=hz.perm.filter (fun g=>inB (bl g.path) (bl a));rw [List.filter_append,hx,hm,List.append_nil] at hp;unfold underL;rw [strict_unique (hz.ok.strict.sublist List.filter_sublist) h.ok.strict hp,e,List.map_map]
  conv=>rhs;rw [←List.map_id l]
  exact List.map_congr_left fun f hf=>h.cut hf
 ·refine hz.underEq ?_;unfold underL;rw [List.length_map,e];have:(l.map (joinF a)).filter (fun g=>inB (bl g.path) (bl b))=[]:=List.filter_eq_nil_iff.2 fun g hg=>by
   obtain ⟨f,hf,rfl⟩:=List.mem_map.1 hg;rw [(h.path hf).1,not_in hz.hd h.hd (Ne.symm hne') h2 h1];simp
  rw [this];rfl
end Go.Proofs.YtaabgmbjmfjdjaaGreatDoor
