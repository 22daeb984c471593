import Derived.Test.YtaabgmbjmfjdjaaGreatDoorJRanged
import Derived.BigRegionIn
import Derived.Test.YtaabgmbjmfjdjaaGreatDoorJPathedEtc
namespace Go.Proofs.YtaabgmbjmfjdjaaGreatDoor
open Go Go.RowKit Go.Shelf
set_option maxHeartbeats 4000000
set_option maxRecDepth 100000
attribute [local go_sem] Oper.semAt_some
theorem slash_head (s:ByteArray):Lib.hasPrefix s.data.toList (⟨#[47]⟩:ByteArray).data.toList=decide ((bl s).head? =some 47):=by
 show List.isPrefixOf [47] (bl s)=_
 cases bl s with
 |nil=>rfl
 |cons b r=>
  show ((47==b)&&List.isPrefixOf [] r)=_;rw [List.isPrefixOf_nil_left,Bool.and_true,List.head?_cons];by_cases h:b=47
  ·subst h;rfl
  ·rw [decide_eq_false (by simpa using h),beq_eq_false_iff_ne];exact fun e=>h e.symm
theorem row_cap {w:World} {base:Nat} {e:TypeId} {size:Nat} {a:Option Addr} {n cap:Nat} {xs:List Value} (h:w.ownsRow base e size (.slice a n cap) n xs):n≤cap:=by
 obtain ⟨h1,⟨h2,h3⟩|⟨g,cap',cur,h3,h4,h5,h6,_⟩⟩:=h
 ·omega
 ·obtain ⟨rfl,rfl⟩:a=some ⟨g,0,none⟩∧cap=cap':=by simpa using h3
  exact h6
theorem two_stores {W:World} {h:Nat} {t1 t2:TypeId} {u1 u2:Value} (k1:Boxed W h t1 u1) (k2:Boxed W (h+1) t2 u2) (v1 v2:Value):
  Boxed ((W.setCell ⟨h,0,none⟩ v1).setCell ⟨h+1,0,none⟩ v2).drew h t1 v1∧Boxed ((W.setCell ⟨h,0,none⟩ v1).setCell ⟨h+1,0,none⟩ v2).drew (h+1) t2 v2:=by
 have d1:Boxed ((W.setCell ⟨h,0,none⟩ v1).setCell ⟨h+1,0,none⟩ v2) h t1 v1:=(k1.set v1).kept (grownBy_setCell' _ _ _) (by simp);have d2:Boxed ((W.setCell ⟨h,0,none⟩ v1).setCell ⟨h+1,0,none⟩ v2) (h+1) t2 v2:=(k2.kept (grownBy_setCell' W h v1) (by simp)).set _;exact ⟨d1,d2⟩
theorem below_two {w W:World} (hb:Below w.heap.size w W) (v1 v2:Value):Below w.heap.size w ((W.setCell ⟨w.heap.size,0,none⟩ v1).setCell ⟨w.heap.size+1,0,none⟩ v2).drew:=
 ((hb.setCell (p:=⟨w.heap.size,0,none⟩) (Nat.le_refl _) _).setCell (p:=⟨w.heap.size+1,0,none⟩) (Nat.le_succ _) _).drew
theorem left_end {E:Nat→Addr} {w W:World} {pre:List Piece} {k B:Nat} (r1:Boxed W w.heap.size 9 (.string ⟨#[]⟩)) (r2:Boxed W (w.heap.size+1) 27 .nilIface) (hB:Below w.heap.size w W) (hs:w.heap.size+6≤W.heap.size)
  (HK:Hid (∀rest,(cleanW [] (strs pre++rest)).1=k+1)):
  KeepsFrom B W ((W.setCell ⟨w.heap.size,0,none⟩ (.string ⟨#[]⟩)).setCell ⟨w.heap.size+1,0,none⟩ (sentV E k)).drew∧
  (Left E w w.heap.size pre ((W.setCell ⟨w.heap.size,0,none⟩ (.string ⟨#[]⟩)).setCell ⟨w.heap.size+1,0,none⟩ (sentV E k)).drew∧w.heap.size+6≤((W.setCell ⟨w.heap.size,0,none⟩ (.string ⟨#[]⟩)).setCell ⟨w.heap.size+1,0,none⟩ (sentV E k)).drew.heap.size):=by
 obtain ⟨d1,d2⟩:=two_stores r1 r2 (.string ⟨#[]⟩) (sentV E k);have kk:KeepsFrom B W ((W.setCell ⟨w.heap.size,0,none⟩ (.string ⟨#[]⟩)).setCell ⟨w.heap.size+1,0,none⟩ (sentV E k)):=((KeepsOthers.setCell _ _ _).trans (KeepsOthers.setCell _ _ _)).from _;exact ⟨⟨kk.size,kk.same⟩,⟨k,d1,d2,HK,below_two hB _ _⟩,Nat.le_trans hs kk.size⟩
theorem CleanPost.err {E:Nat→Addr} {s:ByteArray} {w w':World} {k:Nat} (h:Hid (cleanE (bl s)=k+1)) (hb:Below w.heap.size w w'):CleanPost E s w (.returned (.tuple #[.string ⟨#[]⟩,sentV E k])) w':=
 ⟨⟨⟨#[]⟩,by rw [h.out];rfl,by show _=_;unfold cleanT;rw [h.out];rfl⟩,hb⟩
theorem CleanPost.ok {E:Nat→Addr} {s x:ByteArray} {w w':World} (h:Hid (cleanE (bl s)=0)) (hx:Hid (bl x=[47].intercalate (cleanW [] (cutL 47 (bl s))).2)) (hb:Below w.heap.size w w'):CleanPost E s w (.returned (.tuple #[.string x,.nilIface])) w':=
 ⟨⟨x,by rw [h.out];rfl,by show _=_;unfold cleanT;rw [h.out,if_pos rfl];exact hx.out⟩,hb⟩
theorem clean_any {E:Nat→Addr} (s:ByteArray) (w:World) (hs:s.size≤1000000) (hE:CEnv E w):Calls Tryz.prog 98 #[.string s] w (CleanPost E s w):=by
 have HE:=Lib.hid hE;clear hE;obtain ⟨i0,hi0,hz0,hz1,hz2⟩:=info_parts Tryz.infoS;refine (callsIn_wide (n:=5)).1 ?_;refine callsIn_of_wp_marks Tryz.func98 rfl trivial ?_ rfl;simp only [Tryz.ntmps98,List.size_toArray,List.length_cons,List.length_nil,Nat.reduceAdd,Nat.reduceSub,Array.replicate_succ,Array.replicate_zero,List.push_toArray,List.append_toArray,List.nil_append,List.cons_append];have b0:Below w.heap.size w ((w.alloc (.cells #[.string ⟨#[]⟩] 9)).alloc (.cells #[.nilIface] 27)):=((Below.refl _ w).alloc (Nat.le_refl _) _).alloc (by simp) _;have k1:Boxed ((w.alloc (.cells #[.string ⟨#[]⟩] 9)).alloc (.cells #[.nilIface] 27)) w.heap.size 9 (.string ⟨#[]⟩):=(Boxed.new w _ _).alloc _;have k2:Boxed ((w.alloc (.cells #[.string ⟨#[]⟩] 9)).alloc (.cells #[.nilIface] 27)) (w.heap.size+1) 27 .nilIface:=by
  have:=Boxed.new (w.alloc (.cells #[.string ⟨#[]⟩] 9)) 27 .nilIface;rwa [World.size_alloc] at this
 have hsz:((w.alloc (.cells #[.string ⟨#[]⟩] 9)).alloc (.cells #[.nilIface] 27)).heap.size=w.heap.size+2:=by simp
 gi_wp2_with fail
 generalize hW:(w.alloc (.cells #[.string ⟨#[]⟩] 9)).alloc (.cells #[.nilIface] 27)=W at*;have HP:=Lib.hid (slash_head s);refine ⟨trivial,(callsIn_wide.2 (Tryz.strings_HasPrefix s ⟨#[47]⟩ W)).mono ?_⟩;rintro e w' ⟨rfl,rfl⟩;rw [HP.out];by_cases hp:(bl s).head? =some 47
 ·have HX:Hid (cleanE (bl s)=2+1):=by show _=_;unfold cleanE;rw [if_pos hp]
  rw [decide_eq_true hp];have c1:=(HE.out.ext b0).shape;have g1:1<w.heap.size:=lt_of_cell HE.out.shape;have e1:=k1.cell;have e2:=k2.cell;have f1:=k1.frozen;have f2:=k2.frozen;clear hp
  gi_wp2_with fail
  gi_region
  gi_wp2
  obtain ⟨d1,d2⟩:=two_stores k1 k2 (.string ⟨#[]⟩) (sentV E 2);have hb:=below_two b0 (.string ⟨#[]⟩) (sentV E 2);have q1:=d1.cell;have q2:=d2.cell;refine ⟨.tuple #[.string ⟨#[]⟩,sentV E 2],?_,CleanPost.err HX hb⟩;simp [results,Tryz.f98,go_sem,q1,q2]
 ·have HX:Hid ((bl s).head?≠some 47):=hp;rw [decide_eq_false hp];clear hp
  gi_wp2_with fail
  have b3:Below w.heap.size w (w'.alloc (.cells #[.slice none 0 0] 22)):=b0.alloc b0.size _;have k3:Boxed (w'.alloc (.cells #[.slice none 0 0] 22)) (w.heap.size+2) 22 (.slice none 0 0):=by
   have:=Boxed.new w' 22 (.slice none 0 0);rwa [hsz] at this
  have k1':=k1.alloc (.cells #[.slice none 0 0] 22);have k2':=k2.alloc (.cells #[.slice none 0 0] 22);have hs3:(w'.alloc (.cells #[.slice none 0 0] 22)).heap.size=w.heap.size+3:=by simp [hsz]
  clear k1 k2 b0 hW hsz;generalize w'.alloc (.cells #[.slice none 0 0] 22)=W3 at*;refine ⟨trivial,(callsIn_wide.2 (splitSeqTop_any s 47 W3)).mono ?_⟩;rintro e w2 ⟨rfl,hw2⟩;rw [hs3];have m1:=Boxed.new W3 9 (.string s);have m2:=Boxed.new (W3.alloc (.cells #[.string s] 9)) 9 (.string ⟨#[47]⟩);have m3:=Boxed.new ((W3.alloc (.cells #[.string s] 9)).alloc (.cells #[.string ⟨#[47]⟩] 9)) 3 (.int .i64 0);simp only [World.size_alloc,hs3,Nat.add_assoc,Nat.reduceAdd] at m1 m2 m3;have j1:Boxed w2 w.heap.size 9 (.string ⟨#[]⟩):=by rw [hw2];exact ((k1'.alloc _).alloc _).alloc _
  have j2:Boxed w2 (w.heap.size+1) 27 .nilIface:=by rw [hw2];exact ((k2'.alloc _).alloc _).alloc _
  have j3:Boxed w2 (w.heap.size+2) 22 (.slice none 0 0):=by rw [hw2];exact ((k3.alloc _).alloc _).alloc _
  have j4:Boxed w2 (w.heap.size+3) 9 (.string s):=by rw [hw2];exact (m1.alloc _).alloc _
  have j5:Boxed w2 (w.heap.size+3+1) 9 (.string ⟨#[47]⟩):=by rw [hw2];exact m2.alloc _
  have j6:Boxed w2 (w.heap.size+3+2) 3 (.int .i64 0):=by rw [hw2];exact m3
  have hs6:w2.heap.size=w.heap.size+6:=by rw [hw2];simp [hs3]
  have b6:Below w.heap.size w w2:=by rw [hw2];exact ((b3.alloc (by omega) _).alloc (by simp;omega) _).alloc (by simp;omega) _
  clear hw2 m1 m2 m3 k1' k2' k3 b3 hs3
  gi_wp2_with fail
  refine range_calm (N:=1000001) (Bs:=w.heap.size+3) (lo:=w.heap.size+3) (hi:=w.heap.size+3+3) rfl (by omega) (gf:=213) rfl trivial (enters_of Tryz.func213 (by kernel_rfl) rfl)
   (encs:=fun x:Piece=>#[Value.string x.1]) (by omega) (by omega) (splitYields w2 (w.heap.size+3) s 47 hs _ j4 j5 j6) (fun _=>rfl)
   (Kept w w.heap.size) (fun pre W=>Left E w w.heap.size pre W∧w.heap.size+6≤W.heap.size) (by rw [hs6];exact kept_calm w _) (by rw [hs6];exact left_calm E w _)
   ⟨.slice none 0 0,[],j3,World.ownsRow_nil _ _ _ _,Nat.le_refl _,(fun z hz=>by cases hz),(fun rest=>rfl),j1,j2,b6,by omega⟩
   (fun x=>{tmps:=#[.string s,undef,.pointer (some ⟨w.heap.size,0,none⟩),.pointer (some ⟨w.heap.size+1,0,none⟩),.pointer (some ⟨w.heap.size+2,0,none⟩),.string x.1,.string s,.bool false,undef,.string s,.func (.func 213) #[] #[.pointer (some ⟨w.heap.size+3+1,0,none⟩),.pointer (some ⟨w.heap.size+3,0,none⟩),.pointer (some ⟨w.heap.size+3+2,0,none⟩)],.string x.1,undef,undef,undef,undef,undef,undef,undef,undef,undef,undef,undef,undef,undef,undef,undef,undef,undef,undef,undef,undef,undef,undef,undef,undef,undef,undef,undef,undef,undef,undef,undef,undef,undef,undef,undef,undef,undef,undef,undef],defers:=[]}) ?assign ?body ?done ?stop
  case assign=>
   intro l x W K hK
   gi_wp2
   exact hK
  case body=>
   rintro l pre x W ⟨v,out,hv,hr,hl,HZ,HI,r1,r2,hB,hs⟩ hN;have HE2:=Lib.hid (HE.out.ext hB);obtain ⟨a,cap,rfl⟩:=row_form hr;have c3:=hv.cell;have f3:=hv.frozen;have HX2:=Lib.hid x.2;have HS:=Lib.hid (strs_snoc pre x);obtain ⟨x,hx⟩:=x;dsimp only at*;by_cases q0:x.toList=[]
   ·have KI:Hid (∀rest,cleanW [] (strs (pre++[⟨x,hx⟩])++rest)=cleanW (out.map bl) rest):=fun rest=>by
     rw [HS.out,List.append_assoc,HI.out];show cleanW (out.map bl) (bl x::rest)=_;rw [cleanW,if_pos (.inl (by rw [←toList_bl];exact q0))]
    have g0:x.toList.isEmpty=true:=by rw [q0];rfl
    clear q0
    gi_wp2
    exact ⟨KeepsFrom.refl _ _,Same.refl _ _ _,_,out,hv,hr,by simp;omega,HZ,KI,r1,r2,hB,hs⟩
   have g0:x.toList.isEmpty=false:=by
    cases h:x.toList with
    |nil=>exact absurd h q0
    |cons _ _=>rfl
   by_cases q1:x.toList=[46]
   ·have KI:Hid (∀rest,cleanW [] (strs (pre++[⟨x,hx⟩])++rest)=cleanW (out.map bl) rest):=fun rest=>by
     rw [HS.out,List.append_assoc,HI.out];show cleanW (out.map bl) (bl x::rest)=_;rw [cleanW,if_pos (.inr (by rw [←toList_bl];exact q1))]
    have g1:(x.toList== [46])=true:=by rw [q1];rfl
    clear q0 q1
    gi_wp2
    exact ⟨KeepsFrom.refl _ _,Same.refl _ _ _,_,out,hv,hr,by simp;omega,HZ,KI,r1,r2,hB,hs⟩
   have g1:(x.toList== [46])=false:=beq_eq_false_iff_ne.2 q1;have n01:Hid (¬(bl x=[]∨bl x=[46])):=by
    show ¬_;rw [←toList_bl];rintro (h|h);exact q0 h;exact q1 h
   clear q0 q1;by_cases q2:x.toList=[46,46]
   ·have g2:(x.toList== [46,46])=true:=by rw [q2];rfl
    have n2:Hid (bl x=[46,46]):=by show _=_;rw [←toList_bl];exact q2
    clear q2;obtain ⟨k,hk⟩:∃k,out.length=k:=⟨_,rfl⟩;rw [hk] at hr c3 hv
    cases k with
    |zero=>
     have c4:=HE2.out.out;have g4:9<w.heap.size:=lt_of_cell HE.out.out;have e1:=r1.cell;have e2:=r2.cell;have f1:=r1.frozen;have f2:=r2.frozen;have HK:Hid (∀rest,(cleanW [] (strs (pre++[⟨x,hx⟩])++rest)).1=9+1):=fun rest=>by
      rw [HS.out,List.append_assoc,HI.out];show (cleanW (out.map bl) (bl x::rest)).1=_;rw [cleanW,if_neg n01.out,if_pos n2.out,if_pos (by rw [List.eq_nil_of_length_eq_zero hk];rfl)]
     gi_wp2
     gi_region
     all_goals gi_wp2
     all_goals exact left_end r1 r2 hB hs HK
    |succ k=>
     obtain ⟨g,cap',ha⟩:=ownsRow_succ hr;obtain ⟨rfl,rfl⟩:a=some ⟨g,0,none⟩∧cap=cap':=by simpa using ha
     have hz:((k:Int)+1==0)=false:=by rw [beq_eq_false_iff_ne];omega
     have hcap:k+1≤cap:=row_cap hr;have hr2:=row_pop hr;have hge:w.heap.size+6≤g:=(hr.lt g rfl).1;have HK:Hid (∀rest,cleanW [] (strs (pre++[⟨x,hx⟩])++rest)=cleanW (out.dropLast.map bl) rest):=fun rest=>by
      rw [HS.out,List.append_assoc,HI.out];show cleanW (out.map bl) (bl x::rest)=_;rw [cleanW,if_neg n01.out,if_pos n2.out,if_neg (by intro e;have:=congrArg List.length e;rw [List.length_map,hk] at this;cases this),List.map_dropLast]
     have hk2:out.dropLast.length=k:=by rw [List.length_dropLast,hk];rfl
     rw [←List.map_dropLast] at hr2
     gi_wp2
     have hgr:=grownBy_setCell' W (w.heap.size+2) (.slice (some ⟨g,0,none⟩) k cap);refine ⟨(KeepsOthers.setCell _ _ _).from _,Same.grown hgr (by omega) (fun r e=>by cases e;omega),_,out.dropLast,hv.set _,?_,by simp;omega,(fun z hz=>HZ.out z (List.dropLast_subset _ hz)),HK,
      r1.kept hgr (by simp),r2.kept hgr (by simp),hB.setCell (p:=⟨w.heap.size+2,0,none⟩) (by simp) _,by simpa using hs⟩
     rw [hk2];exact hr2.kept hgr (.inr (by simp [Value.ownBlock];omega))
   ·have g2:(x.toList== [46,46])=false:=beq_eq_false_iff_ne.2 q2;have n2:Hid (¬bl x=[46,46]):=by show ¬_;rw [←toList_bl];exact q2
    clear q2
    gi_wp2
    refine ⟨trivial,(CallsIn.inRound l (callsIn_wide.2 (part_any x W (by omega)))).mono ?_⟩;rintro e W4 ⟨rfl,hb4⟩;have hv4:=boxExt hv hb4;have hr4:=rowExt hr hb4;have r14:=boxExt r1 hb4;have r24:=boxExt r2 hb4;have hB4:=hB.trans (hb4.mono hB.size);have hs4:=Nat.le_trans hs hb4.size;have c4:=hv4.cell;have f4:=hv4.frozen;have HE4:=Lib.hid (HE2.out.ext hb4);have kf4:KeepsFrom w2.heap.size W W4:=(KeepsOthers.of_grownBy (grown_of hb4) (fun j o ej _=>by cases ej)).from _;have sm4:Same (w.heap.size+3) (w.heap.size+3+3) W W4:=Same.grown (grown_of hb4) (by omega) (fun r e=>by cases e);clear c3 f3 hv hr r1 r2 hB hb4 HE2 hs
    cases hp:partB (bl x) with
    |false=>
     have HK:Hid (∀rest,(cleanW [] (strs (pre++[⟨x,hx⟩])++rest)).1=4+1):=fun rest=>by
      rw [HS.out,List.append_assoc,HI.out];show (cleanW (out.map bl) (bl x::rest)).1=_;rw [cleanW,if_neg n01.out,if_neg n2.out,if_neg (by rw [hp];decide)]
     have c5:=HE4.out.path.name;have g4:4<w.heap.size:=lt_of_cell HE.out.path.name;have e1:=r14.cell;have e2:=r24.cell;have f1:=r14.frozen;have f2:=r24.frozen;clear hp
     gi_wp2
     gi_region
     all_goals gi_wp2
     all_goals exact (left_end r14 r24 hB4 hs4 HK).imp (kf4.trans ·) id
    |true=>
     have HK:Hid (∀rest,cleanW [] (strs (pre++[⟨x,hx⟩])++rest)=cleanW ((out++[x]).map bl) rest):=fun rest=>by
      rw [HS.out,List.append_assoc,HI.out];show cleanW (out.map bl) (bl x::rest)=_;rw [cleanW,if_neg n01.out,if_neg n2.out,if_pos hp,List.map_append];rfl
     clear hp
     gi_wp2_with (gi_at_builtin;refine wpListIn_append_own _ rfl _ _ 22 rfl (w.heap.size+6) 9 i0 (.string ⟨#[]⟩) 1 16 Tryz.underlying22 hi0 hz0 hz1 hz2 rfl (by decide) _ _ _ rfl (hr4.alloc _) ⟨W4.heap.size,0,none⟩ 1 1 [.string x] rfl rfl (cell_one_new _ _ _) (by simp [Value.oneCell']) (by rw [maxLen_eq];omega) (by omega) (by simp;omega) ?_;intro v' w1 hown' hgrow _;obtain ⟨g',cap',rfl⟩:=ownsRow_succ hown';obtain ⟨hv1,hv2,hr2,hk2,hb2⟩:=box_appended (n₀:=w.heap.size) hv4 (by decide) hr4 (by omega) (by omega) (by omega) hown' hgrow;have hc1:=hv1.cell;have hf1:=hv1.frozen)
     have hg2:w.heap.size+6≤g':=(hr2.lt g' rfl).1;have hrow:∀r,(Value.slice a out.length cap).ownBlock=some r→w.heap.size+6≤r:=fun r hr'=>(hr4.lt r hr').1
     have ga:=World.grownBy_alloc W4 (.cells #[.string x] 9) none;have gs:=grownBy_setCell' w1 (w.heap.size+2) (.slice (some ⟨g',0,none⟩) (out.length+1) cap');refine ⟨kf4.trans (hk2.from _),(sm4.trans ((Same.grown ga (by omega) (fun r e=>by cases e)).trans (Same.grown hgrow (by simp;omega) (fun r e=>by have:=hrow r e;omega)))).trans (Same.grown gs (by have:=hgrow.size;simp at this;omega) (fun r e=>by cases e;omega)),
      _,out++[x],hv2,?_,by simp;omega,?_,HK,?_,?_,hB4.trans hb2,?_⟩
     ·simpa using hr2
     ·intro z hz;rcases List.mem_append.1 hz with h|h
      ·exact HZ.out z h
      ·obtain rfl:=List.mem_singleton.1 h;exact hx
     ·exact ((r14.kept ga (by simp)).kept hgrow (fun e=>by have:=hrow _ e.symm;omega)).kept gs (by simp)
     ·exact ((r24.kept ga (by simp)).kept hgrow (fun e=>by have:=hrow _ e.symm;omega)).kept gs (by simp)
     ·exact Nat.le_trans hs4 hk2.size
  case done=>
   rintro D xs W hD hS ⟨v,out,hv,hr,hl,HZ,HI,r1,r2,hB,hs⟩ hK;obtain ⟨a,cap,rfl⟩:=row_form hr;have c3:=hv.cell;have HF:Hid (cleanW [] (cutL 47 (bl s))=(if 6<out.length then 8 else 0,out.map bl)):=by
    have h:=HI.out [];rw [List.append_nil] at h;show _=_;rw [←hS,h,cleanW,List.length_map]
   by_cases h6:out.length≤6
   ·have HX2:Hid (cleanE (bl s)=0):=by show _=_;unfold cleanE;rw [if_neg HX.out,HF.out,if_neg (by omega)]
    gi_wp2_with fail
    refine ⟨trivial,(callsIn_wide.2 (join_any hr h6 HZ.out)).mono ?_⟩;rintro e W5 ⟨⟨x,rfl,HJ⟩,hb5⟩;have s1:=boxExt r1 hb5;have s2:=boxExt r2 hb5;have hB5:=hB.trans (hb5.mono hB.size);have hK5:W5.heap[D]? =some (.deferred (some [])):=(hb5.block D (Array.getElem?_eq_some_iff.1 hK).1).trans hK;have hs5:=Nat.le_trans hs hb5.size;have HJ2:Hid (bl x=[47].intercalate (cleanW [] (cutL 47 (bl s))).2):=by show _=_;rw [HF.out];exact HJ.out
    have e1:=s1.cell;have e2:=s2.cell;have f1:=s1.frozen;have f2:=s2.frozen;clear c3 hv r1 r2 hB hb5 hK HF HJ hr
    gi_wp2
    obtain ⟨d1,d2⟩:=two_stores s1 s2 (.string x) .nilIface;have hK':((W5.setCell ⟨w.heap.size,0,none⟩ (.string x)).setCell ⟨w.heap.size+1,0,none⟩ .nilIface).heap[D]? =some (.deferred (some [])):=((KeepsOthers.setCell W5 ⟨w.heap.size,0,none⟩ (.string x)).trans (KeepsOthers.setCell _ ⟨w.heap.size+1,0,none⟩ .nilIface)).same D _ hK5 rfl;refine ⟨by simp,.inl ⟨_,_,rfl,run_takeDeferred hK',?_⟩⟩;have gp:=grownBy_putObj' ((W5.setCell ⟨w.heap.size,0,none⟩ (.string x)).setCell ⟨w.heap.size+1,0,none⟩ .nilIface) D (.deferred none);have t1:Boxed ((W5.setCell ⟨w.heap.size,0,none⟩ (.string x)).setCell ⟨w.heap.size+1,0,none⟩ .nilIface) w.heap.size 9 (.string x):=d1;have t2:Boxed ((W5.setCell ⟨w.heap.size,0,none⟩ (.string x)).setCell ⟨w.heap.size+1,0,none⟩ .nilIface) (w.heap.size+1) 27 .nilIface:=d2;have q1:=(t1.kept gp (by simp;omega)).cell;have q2:=(t2.kept gp (by simp;omega)).cell;have hb6:Below w.heap.size w ((W5.setCell ⟨w.heap.size,0,none⟩ (.string x)).setCell ⟨w.heap.size+1,0,none⟩ .nilIface):=(hB5.setCell (p:=⟨w.heap.size,0,none⟩) (Nat.le_refl _) _).setCell (p:=⟨w.heap.size+1,0,none⟩) (Nat.le_succ _) _;refine ⟨.tuple #[.string x,.nilIface],?_,CleanPost.ok HX2 HJ2 (hb6.grown gp hb6.size (fun r e=>by cases e;omega))⟩;simp [results,Tryz.f98,go_sem,q1,q2]
   ·have HX2:Hid (cleanE (bl s)=7+1):=by show _=_;unfold cleanE;rw [if_neg HX.out,HF.out,if_pos (by omega)]
    have c5:=(HE.out.ext hB).path.full;have g4:7<w.heap.size:=lt_of_cell HE.out.path.full;have e1:=r1.cell;have e2:=r2.cell;have f1:=r1.frozen;have f2:=r2.frozen
    gi_wp2
    gi_region
    all_goals gi_wp2
    obtain ⟨d1,d2⟩:=two_stores r1 r2 (.string ⟨#[]⟩) (sentV E 7);have hb':=below_two hB (.string ⟨#[]⟩) (sentV E 7);have hK':((W.setCell ⟨w.heap.size,0,none⟩ (.string ⟨#[]⟩)).setCell ⟨w.heap.size+1,0,none⟩ (sentV E 7)).drew.heap[D]? =some (.deferred (some [])):=((KeepsOthers.setCell W ⟨w.heap.size,0,none⟩ (.string ⟨#[]⟩)).trans (KeepsOthers.setCell _ ⟨w.heap.size+1,0,none⟩ (sentV E 7))).same D _ hK rfl;refine ⟨by simp,.inl ⟨_,_,rfl,run_takeDeferred hK',?_⟩⟩;have gp:=grownBy_putObj' ((W.setCell ⟨w.heap.size,0,none⟩ (.string ⟨#[]⟩)).setCell ⟨w.heap.size+1,0,none⟩ (sentV E 7)).drew D (.deferred none);have q1:=(d1.kept gp (by simp;omega)).cell;have q2:=(d2.kept gp (by simp;omega)).cell;refine ⟨.tuple #[.string ⟨#[]⟩,sentV E 7],?_,CleanPost.err HX2 (hb'.grown gp hb'.size (fun r e=>by cases e;omega))⟩;simp [results,Tryz.f98,go_sem,q1,q2]
  case stop=>
   rintro D pre W hD ⟨rest,hrest⟩ ⟨⟨k,d1,d2,HK,hB⟩,hs⟩ hK;have HX2:Hid (cleanE (bl s)=k+1):=by show _=_;unfold cleanE;rw [if_neg HX.out,←hrest,HK.out rest]
   gi_wp2
   refine ⟨by simp,.inl ⟨_,_,rfl,run_takeDeferred hK,?_⟩⟩;have gp:=grownBy_putObj' W D (.deferred none);have q1:=(d1.kept gp (by simp;omega)).cell;have q2:=(d2.kept gp (by simp;omega)).cell;refine ⟨.tuple #[.string ⟨#[]⟩,sentV E k],?_,CleanPost.err HX2 (hB.grown gp hB.size (fun r e=>by cases e;omega))⟩;simp [results,Tryz.f98,go_sem,q1,q2]
def JoinPost (E:Nat→Addr) (d s:ByteArray) (w:World) (e:Ending) (w':World):Prop:=
 (∃x:ByteArray,e=.returned (.tuple #[.string x,errV E (cleanE (joinS (bl d) (bl s)))])∧Hid (bl x=cleanT (joinS (bl d) (bl s))))∧Below w.heap.size w w'
theorem pathJoin_any {E:Nat→Addr} (d s:ByteArray) (w:World) (hd:d.size≤10000) (hs:s.size≤10000) (hE:CEnv E w):
  Calls Tryz.prog 210 #[.string d,.string s] w (JoinPost E d s w):=by
 by_cases h:d.toList=[]
 ·have g:d.toList.isEmpty=true:=by rw [h];rfl
  have HJ:Hid (joinS (bl d) (bl s)=bl s):=by show _=_;unfold joinS;rw [if_pos (by rw [←toList_bl];exact h)]
  have C:=Lib.hid (clean_any s w (by omega) hE);clear h hE;go_enter Tryz.func210,Tryz.ntmps210;go_wp2_with fail;refine C.out.mono ?_;clear C;rintro e w1 ⟨⟨x,rfl,HX⟩,hb⟩;go_wp2_with fail;go_ret2;exact ⟨⟨x,by rw [HJ.out];rfl,by show _=_;rw [HJ.out];exact HX.out⟩,hb⟩
 ·have g:d.toList.isEmpty=false:=by
   cases h2:d.toList with
   |nil=>exact absurd h2 h
   |cons _ _=>rfl
  have HJ:Hid (joinS (bl d) (bl s)=bl (d++⟨#[47]⟩++s)):=by
   show _=_;unfold joinS;rw [if_neg (by rw [←toList_bl];exact h),blAdd,blAdd,List.append_assoc];rfl
  have hsz:(d++⟨#[47]⟩++s).size≤1000000:=by
   have e1:=congrArg List.length (blAdd (d++⟨#[47]⟩) s);have e2:=congrArg List.length (blAdd d ⟨#[47]⟩);rw [List.length_append,bl_length,bl_length,bl_length] at e1 e2;have e:(⟨#[47]⟩:ByteArray).size=1:=rfl;omega
  have C:=Lib.hid (clean_any (d++⟨#[47]⟩++s) w hsz hE);clear h hE;go_enter Tryz.func210,Tryz.ntmps210;go_wp2_with fail;refine C.out.mono ?_;clear C;rintro e w1 ⟨⟨x,rfl,HX⟩,hb⟩;go_wp2_with fail;go_ret2;exact ⟨⟨x,by rw [HJ.out];rfl,by show _=_;rw [HJ.out];exact HX.out⟩,hb⟩
def StripPost (E:Nat→Addr) (s:ByteArray) (n:Int) (w:World) (e:Ending) (w':World):Prop:=
 (∃x:ByteArray,e=.returned (.tuple #[.string x,errV E (stripE (bl s) n)])∧Hid (bl x=stripT (bl s) n))∧Below w.heap.size w w'
theorem StripPost.err {E:Nat→Addr} {s:ByteArray} {n:Int} {w w':World} {k:Nat} (h:Hid (stripE (bl s) n=k+1)) (hb:Below w.heap.size w w'):StripPost E s n w (.returned (.tuple #[.string ⟨#[]⟩,sentV E k])) w':=
 ⟨⟨⟨#[]⟩,by rw [h.out];rfl,by show _=_;unfold stripT;rw [h.out];rfl⟩,hb⟩
structure SEnv (E:Nat→Addr) (w:World):Prop where
 clean:CEnv E w
 bound:w.cell? ⟨0,0,none⟩=some (sentV E 1)
theorem SEnv.ext {E:Nat→Addr} {w w':World} (h:SEnv E w) (hb:Below w.heap.size w w'):SEnv E w':=
 ⟨h.clean.ext hb,by rw [hb.cell (p:=⟨0,0,none⟩) (lt_of_cell h.bound)];exact h.bound⟩
theorem joinRest_any {W:World} {b n:Nat} {zs:List ByteArray} (hn:n=zs.length) (h6:n≤6) (hz:∀z∈zs,z.size≤1000000) (hc:StrsAt W b zs) (k:Nat) (hk:k<n) (o:Nat) (ho:o=k) (m:Nat) (hm:m=n-k) (c:Nat) (hcap:m≤c):
  Calls Tryz.prog 34 #[.slice (some ⟨b,o,none⟩) m c,.string ⟨#[47]⟩] W fun e w'=>(∃x:ByteArray,e=.returned (.string x)∧Hid (bl x=[47].intercalate ((zs.drop k).map bl)))∧Below W.heap.size W w':=by
 subst ho hm;have hl:(zs.drop o).length=n-o:=by rw [List.length_drop,hn]
 have hlen:(Lib.join ((zs.drop o).map (·.data.toList)) (⟨#[47]⟩:ByteArray).data.toList).length≤140737488355328:=by
  have:=join_len (zs.drop o) (fun z hz2=>hz z (List.mem_of_mem_drop hz2));show ([47].intercalate ((zs.drop o).map bl):List UInt8).length≤_;rw [hl] at this;omega
 have C:=Tryz.strings_Join b o c (zs.drop o) ⟨#[47]⟩ W (fun j x hx=>by
  rw [List.getElem?_drop] at hx;obtain ⟨hj,rfl⟩:=List.getElem?_eq_some_iff.1 hx;exact hc.2 (o+j) hj) hc.1 (by rw [hl];omega) (by rw [hl];omega) hlen
 rw [hl] at C;refine C.mono ?_;rintro e w' ⟨rfl,hb⟩;exact ⟨⟨_,rfl,by show [47].intercalate ((zs.drop o).map (·.data.toList))=_;rfl⟩,hb⟩
theorem pathStrip_any {E:Nat→Addr} (s:ByteArray) (n:Int) (w:World) (hs:s.size≤1000000) (hn:(Lit.int .i64 n).wf=true) (hE:SEnv E w):
  Calls Tryz.prog 265 #[.string s,.int .i64 n] w (StripPost E s n w):=by
 have C:=Lib.hid (pathParts_any s w hs hE.clean.path);have HE:=Lib.hid hE;clear hE;go_enter Tryz.func265,Tryz.ntmps265;go_wp2_with fail;refine C.out.mono ?_;clear C;intro e w1 h;unfold PartsPost at h;obtain ⟨⟨zs,b,m,rfl,HZ,hm,h6,HS,HA,HR⟩|⟨k,rfl,HR⟩,hb⟩:=h
 ·have e1:=HE.out.ext hb;have HL:Hid ((cutL 47 (bl s)).length=m):=by show _=_;rw [←HZ.out,List.length_map,hm]
  by_cases h0:n<0
  ·have HX:Hid (stripE (bl s) n=1+1):=by show _=_;unfold stripE;rw [if_pos HR.out,if_pos h0]
   have c1:=e1.bound;clear e1;go_wp2_with fail;go_quiet (fail);go_wp2_with fail;go_ret2;exact StripPost.err HX (hb.trans ((below_drewN _ _ _).mono hb.size))
  ·by_cases h1:(m:Int)≤n
   ·have HX:Hid (stripE (bl s) n=2+1):=by show _=_;unfold stripE;rw [if_pos HR.out,if_neg h0,HL.out,if_pos h1]
    have c1:=e1.clean.shape;clear e1;go_wp2_with fail;go_quiet (fail);go_wp2_with fail;go_ret2;exact StripPost.err HX (hb.trans ((below_drewN _ _ _).mono hb.size))
   ·obtain ⟨k,rfl⟩:∃k:Nat,n=k:=⟨n.toNat,by omega⟩;have HX:Hid (stripE (bl s) (k:Int)=0):=by show _=_;unfold stripE;rw [if_pos HR.out,if_neg h0,HL.out,if_neg h1]
    have hz:∀z∈zs,z.size≤1000000:=fun z hz=>by have:=HS.out z hz;omega
    have C:=Lib.hid (fun o ho m' hm' c hc=>joinRest_any (W:=w1) (b:=b) hm h6 hz HA.out k (by omega) o ho m' hm' c hc);have HM:=Lib.hid hm;clear e1 hm hz;go_wp2_with fail;refine (C.out k rfl (m-k) rfl (m-k) (Nat.le_refl _)).mono ?_;clear C;rintro e w2 ⟨⟨x,rfl,HJ⟩,hb2⟩;go_wp2_with fail;go_ret2;refine ⟨⟨x,by rw [HX.out];rfl,?_⟩,hb.trans (hb2.mono hb.size)⟩;show _=_;unfold stripT;rw [HX.out,if_pos rfl,HJ.out,List.map_drop,HZ.out];rfl
 ·have HX:Hid (stripE (bl s) n=k+1):=by show _=_;unfold stripE;rw [if_neg (by rw [HR.out];omega),HR.out]
  go_wp2_with fail;go_ret2;exact StripPost.err HX hb
end Go.Proofs.YtaabgmbjmfjdjaaGreatDoor
