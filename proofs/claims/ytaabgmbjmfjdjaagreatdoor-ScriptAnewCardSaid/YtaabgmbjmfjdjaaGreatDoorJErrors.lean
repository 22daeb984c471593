import Derived.Test.YtaabgmbjmfjdjaaGreatDoorProg
import Derived.WalkKit
import Derived.LaidEql
import Derived.Stop.Asserts
import Derived.RowKitTokens
import Derived.Lib.Hide
namespace Go.Proofs.YtaabgmbjmfjdjaaGreatDoor
open Go Go.RowKit Go.Extern.Stop Go.Stop Go.Extern
set_option maxHeartbeats 4000000
set_option maxRecDepth 100000
theorem Tryz.isTypeOf (v:Value) (w:World):(Extern.ReflectliteType.typeOf #[.iface 298 v]).run Tryz.prog w=.ok (.iface 147 (.agg #[.pointer (some ⟨27,298,none⟩)])) w:=by kernel_rfl
def cmpEntry:Array Value→Sem Value:=Extern.ReflectliteType.method fun t=>do Rtype.noPackHeld "Comparable" t;pure (.bool (←typeInfo t).comparable)
theorem Tryz.isComparable (w:World):(cmpEntry #[.agg #[.pointer (some ⟨27,298,none⟩)]]).run Tryz.prog w=.ok (.bool true) w:=by kernel_rfl
theorem Tryz.isMethodComparable (v:Value) (w:World):(Go.method 444 147 v "Comparable").run Tryz.prog w=.ok (293,v) w:=by kernel_rfl
theorem Tryz.isComp:(Tryz.prog.info? 298).map (·.comparable)=some true:=by kernel_rfl
theorem Tryz.isSize:(Tryz.prog.info? 300).map (·.size)=some 1:=by kernel_rfl
theorem Tryz.noIsE (v:Value) (xT:TypeId) (w:World):(Instr.typeAssert (.iface 298 v) xT 158 true).run Tryz.prog w=.ok (.tuple #[.nilIface,.bool false]) w:=run_typeAssert_lacksB Tryz.underlying158 (by kernel_rfl) (by kernel_rfl) v xT w
theorem Tryz.noUnwrapE (v:Value) (xT:TypeId) (w:World):(Instr.typeAssert (.iface 298 v) xT 154 true).run Tryz.prog w=.ok (.tuple #[.nilIface,.bool false]) w:=run_typeAssert_lacksB Tryz.underlying154 (by kernel_rfl) (by kernel_rfl) v xT w
theorem Tryz.noUnwrapsE (v:Value) (xT:TypeId) (w:World):(Instr.typeAssert (.iface 298 v) xT 156 true).run Tryz.prog w=.ok (.tuple #[.nilIface,.bool false]) w:=run_typeAssert_lacksB Tryz.underlying156 (by kernel_rfl) (by kernel_rfl) v xT w
theorem Tryz.noAsE (v:Value) (xT:TypeId) (w:World):(Instr.typeAssert (.iface 298 v) xT 151 true).run Tryz.prog w=.ok (.tuple #[.nilIface,.bool false]) w:=run_typeAssert_lacksB Tryz.underlying151 (by kernel_rfl) (by kernel_rfl) v xT w
theorem Tryz.noIsF (v:Value) (xT:TypeId) (w:World):(Instr.typeAssert (.iface 70 v) xT 158 true).run Tryz.prog w=.ok (.tuple #[.nilIface,.bool false]) w:=run_typeAssert_lacksB Tryz.underlying158 (by kernel_rfl) (by kernel_rfl) v xT w
theorem Tryz.hasUnwrapF (v:Value) (xT:TypeId) (w:World):(Instr.typeAssert (.iface 70 v) xT 154 true).run Tryz.prog w=.ok (.tuple #[.iface 70 v,.bool true]) w:=run_typeAssert_hasB Tryz.underlying154 (by kernel_rfl) v xT w
theorem Tryz.methodUnwrap (v:Value) (w:World):(Go.method 444 70 v "Unwrap").run Tryz.prog w=.ok (286,v) w:=by kernel_rfl
theorem is_same (a:Addr) (w:World):
  Calls Tryz.prog 26 #[.iface 298 (.pointer (some a)),.iface 298 (.pointer (some a))] w fun e w'=>e=.returned (.bool true)∧w=w':=by
 obtain ⟨i,hi,hcmp⟩:=Option.map_eq_some_iff.1 Tryz.isComp;obtain ⟨j,hj,hjs⟩:=Option.map_eq_some_iff.1 Tryz.isSize;have h8:=@run_callFunc_extern Tryz.prog 59 _ Extern.ReflectliteType.typeOf Tryz.func59 (by kernel_rfl) (by kernel_rfl) (by kernel_rfl) (by kernel_rfl);have h32:=@run_callFunc_extern Tryz.prog 293 _ cmpEntry Tryz.func293 (by kernel_rfl) (by kernel_rfl) (by kernel_rfl) (by kernel_rfl);have tT:=Tryz.isTypeOf;have cT:=Tryz.isComparable;have mR:=Tryz.isMethodComparable;have heq:=run_eql_iface_ptr_same (P:=Tryz.prog) w a Tryz.underlying27 Tryz.underlying298 hi hcmp hj;go_enter Tryz.func26,Tryz.ntmps26
 go_wp2
 refine wp_loop_rounds 1 ?_;rw [rounds_succ]
 go_wp2
 go_ret;exact ⟨rfl,rfl⟩
theorem is_other (a b:Addr) (ca cb:Array Value) (ta tb:TypeId) (w:World) (hne:a≠b) (ha:w.heap[a.block]? =some (.cells ca ta (0,0))) (hb:w.heap[b.block]? =some (.cells cb tb (0,0))):
  Calls Tryz.prog 26 #[.iface 298 (.pointer (some a)),.iface 298 (.pointer (some b))] w fun e w'=>e=.returned (.bool false)∧w=w':=by
 obtain ⟨i,hi,hcmp⟩:=Option.map_eq_some_iff.1 Tryz.isComp;obtain ⟨j,hj,hjs⟩:=Option.map_eq_some_iff.1 Tryz.isSize;have h8:=@run_callFunc_extern Tryz.prog 59 _ Extern.ReflectliteType.typeOf Tryz.func59 (by kernel_rfl) (by kernel_rfl) (by kernel_rfl) (by kernel_rfl);have h32:=@run_callFunc_extern Tryz.prog 293 _ cmpEntry Tryz.func293 (by kernel_rfl) (by kernel_rfl) (by kernel_rfl) (by kernel_rfl);have tT:=Tryz.isTypeOf;have cT:=Tryz.isComparable;have mR:=Tryz.isMethodComparable;have nE:=Tryz.noIsE;have uE:=Tryz.noUnwrapE;have vE:=Tryz.noUnwrapsE;have heq:=run_eql_iface_ptr_other (P:=Tryz.prog) w Tryz.underlying27 Tryz.underlying298 hi hcmp hj (by rw [hjs];decide) hne ha hb;go_enter Tryz.func26,Tryz.ntmps26
 go_wp2
 refine wp_loop_rounds 1 ?_;rw [rounds_succ]
 go_wp2
 go_ret;exact ⟨rfl,rfl⟩
theorem is_fault_same (pb po:Nat) (b:Addr) (w:World) (h1:w.cell? ⟨pb,po+1,none⟩=some (.iface 298 (.pointer (some b)))):
  Calls Tryz.prog 26 #[.iface 70 (.pointer (some ⟨pb,po,none⟩)),.iface 298 (.pointer (some b))] w fun e w'=>e=.returned (.bool true)∧w=w':=by
 obtain ⟨i,hi,hcmp⟩:=Option.map_eq_some_iff.1 Tryz.isComp;obtain ⟨j,hj,hjs⟩:=Option.map_eq_some_iff.1 Tryz.isSize;have h8:=@run_callFunc_extern Tryz.prog 59 _ Extern.ReflectliteType.typeOf Tryz.func59 (by kernel_rfl) (by kernel_rfl) (by kernel_rfl) (by kernel_rfl);have h32:=@run_callFunc_extern Tryz.prog 293 _ cmpEntry Tryz.func293 (by kernel_rfl) (by kernel_rfl) (by kernel_rfl) (by kernel_rfl);have tT:=Tryz.isTypeOf;have cT:=Tryz.isComparable;have mR:=Tryz.isMethodComparable;have nW:=Tryz.noIsF;have uW:=Tryz.hasUnwrapF;have mU:=Tryz.methodUnwrap;have heq:=run_eql_iface_ptr_same (P:=Tryz.prog) w b Tryz.underlying27 Tryz.underlying298 hi hcmp hj;have hty:=run_eql_iface_types (P:=Tryz.prog) 70 298 (.pointer (some ⟨pb,po,none⟩)) (.pointer (some b)) Tryz.underlying27 (by decide) w;go_enter Tryz.func26,Tryz.ntmps26
 go_wp2
 refine wp_loop_rounds 2 ?_;rw [rounds_succ]
 go_wp2
 rw [rounds_succ]
 go_wp2
 go_ret;exact ⟨rfl,rfl⟩
theorem is_fault_other (pb po:Nat) (a b:Addr) (ca cb:Array Value) (ta tb:TypeId) (w:World) (h1:w.cell? ⟨pb,po+1,none⟩=some (.iface 298 (.pointer (some a)))) (hne:a≠b) (ha:w.heap[a.block]? =some (.cells ca ta (0,0))) (hb:w.heap[b.block]? =some (.cells cb tb (0,0))):
  Calls Tryz.prog 26 #[.iface 70 (.pointer (some ⟨pb,po,none⟩)),.iface 298 (.pointer (some b))] w fun e w'=>e=.returned (.bool false)∧w=w':=by
 obtain ⟨i,hi,hcmp⟩:=Option.map_eq_some_iff.1 Tryz.isComp;obtain ⟨j,hj,hjs⟩:=Option.map_eq_some_iff.1 Tryz.isSize;have h8:=@run_callFunc_extern Tryz.prog 59 _ Extern.ReflectliteType.typeOf Tryz.func59 (by kernel_rfl) (by kernel_rfl) (by kernel_rfl) (by kernel_rfl);have h32:=@run_callFunc_extern Tryz.prog 293 _ cmpEntry Tryz.func293 (by kernel_rfl) (by kernel_rfl) (by kernel_rfl) (by kernel_rfl);have tT:=Tryz.isTypeOf;have cT:=Tryz.isComparable;have mR:=Tryz.isMethodComparable;have nE:=Tryz.noIsE;have uE:=Tryz.noUnwrapE;have vE:=Tryz.noUnwrapsE;have nW:=Tryz.noIsF;have uW:=Tryz.hasUnwrapF;have mU:=Tryz.methodUnwrap;have heq:=run_eql_iface_ptr_other (P:=Tryz.prog) w Tryz.underlying27 Tryz.underlying298 hi hcmp hj (by rw [hjs];decide) hne ha hb;have hty:=run_eql_iface_types (P:=Tryz.prog) 70 298 (.pointer (some ⟨pb,po,none⟩)) (.pointer (some b)) Tryz.underlying27 (by decide) w;go_enter Tryz.func26,Tryz.ntmps26
 go_wp2
 refine wp_loop_rounds 2 ?_;rw [rounds_succ]
 go_wp2
 rw [rounds_succ]
 go_wp2
 go_ret;exact ⟨rfl,rfl⟩
theorem Tryz.valueOf27 (t:Addr) (w:World):(ReflectliteValue.unpack (.iface 72 (.pointer (some t)))).run Tryz.prog w
  =.ok (.agg #[.pointer (some ⟨27,72,none⟩),.pointer (some ⟨w.heap.size,0,none⟩),.int .u64 150]) (w.alloc (.cells #[.pointer (some t)] 72)):=by kernel_rfl
theorem Tryz.type27 (a:Addr) (w:World):(ReflectliteValue.methodAny (ReflectliteValue.valueError "reflectlite.Value.Type" 0) (fun t _ _ _=>ReflectliteType.toType t) #[.agg #[.pointer (some ⟨27,72,none⟩),.pointer (some a),.int .u64 150]]).run Tryz.prog w
  =.ok (.iface 147 (.agg #[.pointer (some ⟨27,72,none⟩)])) w:=by kernel_rfl
theorem Tryz.methodKind (h:Value) (w:World):(Go.method 444 147 (.agg #[h]) "Kind").run Tryz.prog w=.ok (282,h) w:=by kernel_rfl
theorem Tryz.kind27 (w:World):((ReflectliteType.abiMethod fun t=>(fun a:Nat=>Value.int IntKind.u8 (a:Int))<$>Rtype.kind t) #[.pointer (some ⟨27,72,none⟩)]).run Tryz.prog w=.ok (.int .u8 22) w:=by kernel_rfl
theorem Tryz.kind25 (w:World):((ReflectliteType.abiMethod fun t=>(fun a:Nat=>Value.int IntKind.u8 (a:Int))<$>Rtype.kind t) #[.pointer (some ⟨27,70,none⟩)]).run Tryz.prog w=.ok (.int .u8 22) w:=by kernel_rfl
theorem rlm (z:Sem Value) (f:TypeId→Addr→Nat→Nat→Sem Value) (v:Value):
  ReflectliteValue.method z f #[v]=(do match ←ReflectliteValue.parts v with|none=>z|some (t,a,fl)=>f t a fl (fl%32)):=rfl
theorem Tryz.parts27 (a:Addr) (w:World):(ReflectliteValue.parts (.agg #[.pointer (some ⟨27,72,none⟩),.pointer (some a),.int .u64 150])).run Tryz.prog w=.ok (some (72,a,150)) w:=by kernel_rfl
theorem Tryz.isNil27 (a p:Addr) (W:World) (ha:W.cell? a=some (.pointer (some p))):
  (ReflectliteValue.method (ReflectliteValue.valueError "reflectlite.Value.IsNil" 0) ReflectliteValue.isNil #[.agg #[.pointer (some ⟨27,72,none⟩),.pointer (some a),.int .u64 150]]).run Tryz.prog W=.ok (.bool false) W:=by
 rw [rlm];simp only [Sem.run_bind,Tryz.parts27,Result.andThen];simp [ReflectliteValue.isNil,loadVar,isAgg,underlying,Tryz.underlying72,ha,Result.andThen]
theorem Tryz.methodElem (h:Value) (w:World):(Go.method 444 147 (.agg #[h]) "Elem").run Tryz.prog w=.ok (294,.agg #[h]) w:=by kernel_rfl
theorem Tryz.methodImplements (h:Value) (w:World):(Go.method 444 147 (.agg #[h]) "Implements").run Tryz.prog w=.ok (295,.agg #[h]) w:=by kernel_rfl
theorem Tryz.methodAssignableTo (h:Value) (w:World):(Go.method 444 147 (.agg #[h]) "AssignableTo").run Tryz.prog w=.ok (292,.agg #[h]) w:=by kernel_rfl
theorem Tryz.elem27 (w:World):(ReflectliteType.method ReflectliteType.elem #[.agg #[.pointer (some ⟨27,72,none⟩)]]).run Tryz.prog w=.ok (.iface 147 (.agg #[.pointer (some ⟨27,70,none⟩)])) w:=by kernel_rfl
theorem Tryz.implements25 (w:World):(ReflectliteType.relation "Implements" ReflectliteType.implements_ #[.agg #[.pointer (some ⟨27,70,none⟩)],.iface 147 (.agg #[.pointer (some ⟨27,27,none⟩)])]).run Tryz.prog w=.ok (.bool true) w:=by kernel_rfl
theorem Tryz.typeOf25 (v:Value) (w:World):(ReflectliteType.typeOf #[.iface 70 v]).run Tryz.prog w=.ok (.iface 147 (.agg #[.pointer (some ⟨27,70,none⟩)])) w:=by kernel_rfl
theorem Tryz.assignable25 (w:World):(ReflectliteType.relation "AssignableTo" ReflectliteType.assignableTo #[.agg #[.pointer (some ⟨27,70,none⟩)],.iface 147 (.agg #[.pointer (some ⟨27,70,none⟩)])]).run Tryz.prog w=.ok (.bool true) w:=by kernel_rfl
theorem Tryz.valueOf25 (e:Addr) (w:World):(ReflectliteValue.unpack (.iface 70 (.pointer (some e)))).run Tryz.prog w
  =.ok (.agg #[.pointer (some ⟨27,70,none⟩),.pointer (some ⟨w.heap.size,0,none⟩),.int .u64 150]) (w.alloc (.cells #[.pointer (some e)] 70)):=by kernel_rfl
theorem Tryz.elemOf27 (w:World):(Rtype.elem? 72).run Tryz.prog w=.ok (some 70) w:=by kernel_rfl
theorem Tryz.mk25 (p:Addr) (w:World):(ReflectliteValue.mk 70 p ReflectliteValue.flagAddr).run Tryz.prog w=.ok (.agg #[.pointer (some ⟨27,70,none⟩),.pointer (some p),.int .u64 406]) w:=by kernel_rfl
theorem Tryz.elemV27 (a p:Addr) (W:World) (ha:W.cell? a=some (.pointer (some p))):
  (ReflectliteValue.method (ReflectliteValue.valueError "reflectlite.Value.Elem" 0) ReflectliteValue.elem #[.agg #[.pointer (some ⟨27,72,none⟩),.pointer (some a),.int .u64 150]]).run Tryz.prog W
   =.ok (.agg #[.pointer (some ⟨27,70,none⟩),.pointer (some p),.int .u64 406]) W:=by
 rw [rlm];simp only [Sem.run_bind,Tryz.parts27,Result.andThen];simp [ReflectliteValue.elem,loadVar,isAgg,underlying,Tryz.underlying72,ha,Result.andThen,Tryz.elemOf27,Tryz.mk25]
theorem rls (v x:Value):ReflectliteValue.set #[v,x]=(do
  let (some (dst,a,fl),some (src,b,_)):=(←ReflectliteValue.parts v,←ReflectliteValue.parts x)
   |unsupported (.noEntry "extern/(internal/reflectlite.Value).Set.zeroValue")
  if fl/ReflectliteValue.flagAddr%2==0 then unsupported (.noEntry "extern/(internal/reflectlite.Value).Set.unaddressable")
  let val ←loadVar src b
  if ←Rtype.directlyAssignable dst src then storeVar dst a val
  else if ←Rtype.implements dst src then
   if (←Rtype.kind src)==20 then
    match val with
    |.nilIface=>unsupported (.noEntry "extern/reflectlite: a nil value of one interface type handed on as a value of another")
    |_=>storeVar dst a val
   else storeVar dst a (.iface src val)
  else panicString ("reflectlite.Set: value of type "++(←Rtype.spelt src)++ " is not assignable to type "++(←Rtype.spelt dst))
  pure (.tuple #[])):=rfl
theorem Tryz.parts25a (a:Addr) (w:World):(ReflectliteValue.parts (.agg #[.pointer (some ⟨27,70,none⟩),.pointer (some a),.int .u64 406])).run Tryz.prog w=.ok (some (70,a,406)) w:=by kernel_rfl
theorem Tryz.parts25 (a:Addr) (w:World):(ReflectliteValue.parts (.agg #[.pointer (some ⟨27,70,none⟩),.pointer (some a),.int .u64 150])).run Tryz.prog w=.ok (some (70,a,150)) w:=by kernel_rfl
theorem Tryz.direct25 (w:World):(Rtype.directlyAssignable 70 70).run Tryz.prog w=.ok true w:=by kernel_rfl
theorem Tryz.set25 (ta b e:Addr) (old:Value) (W:World) (hb:W.cell? b=some (.pointer (some e))) (ht:W.cell? ta=some old) (hf:W.frozen? ta=false):
  (ReflectliteValue.set #[.agg #[.pointer (some ⟨27,70,none⟩),.pointer (some ta),.int .u64 406],.agg #[.pointer (some ⟨27,70,none⟩),.pointer (some b),.int .u64 150]]).run Tryz.prog W
   =.ok (.tuple #[]) (W.setCell ta (.pointer (some e))):=by
 rw [rls];simp only [Sem.run_bind,Tryz.parts25a,Tryz.parts25,Result.andThen];simp [ReflectliteValue.flagAddr,loadVar,isAgg,underlying,Tryz.underlying70,hb,Result.andThen,Tryz.direct25,storeVar,Value.cells,storeCells,Addr.add];rw [run_store Tryz.prog W ta _ _ (by rfl)];simp [ht,hf]
theorem as_hit (e t:Addr) (old:Value) (w:World) (hg:w.cell? ⟨13,0,none⟩=some (.iface 147 (.agg #[.pointer (some ⟨27,27,none⟩)]))) (ht0:w.cell? t=some old) (hf0:w.frozen? t=false):
  Calls Tryz.prog 25 #[.iface 70 (.pointer (some e)),.iface 72 (.pointer (some t))] w fun ev w'=>ev=.returned (.bool true)∧w'=((((w.alloc (.cells #[.pointer (some t)] 72)).alloc (.cells #[.pointer (some ⟨27,72,none⟩),.pointer (some ⟨w.heap.size,0,none⟩),.int .u64 150] 96)).alloc (.cells #[.pointer (some ⟨27,72,none⟩),.pointer (some ⟨w.heap.size,0,none⟩),.int .u64 150] 96)).alloc (.cells #[.pointer (some e)] 70)).setCell t (.pointer (some e)):=by
 have h6:=@run_callFunc_extern Tryz.prog 55 _ (fun args=>ReflectliteValue.unpack (args.getD 0 (.tuple #[]))) Tryz.func55 (by kernel_rfl) (by kernel_rfl) (by kernel_rfl) (by kernel_rfl);have h7:=@run_callFunc_extern Tryz.prog 56 _ (ReflectliteValue.methodAny (ReflectliteValue.valueError "reflectlite.Value.Type" 0) (fun t _ _ _=>ReflectliteType.toType t)) Tryz.func56 (by kernel_rfl) (by kernel_rfl) (by kernel_rfl) (by kernel_rfl);have h8:=@run_callFunc_extern Tryz.prog 57 _ (ReflectliteValue.method (ReflectliteValue.valueError "reflectlite.Value.IsNil" 0) ReflectliteValue.isNil) Tryz.func57 (by kernel_rfl) (by kernel_rfl) (by kernel_rfl) (by kernel_rfl);have h27:=@run_callFunc_extern Tryz.prog 282 _ (ReflectliteType.abiMethod fun t=>do pure (.int .u8 (←Rtype.kind t))) Tryz.func282 (by kernel_rfl) (by kernel_rfl) (by kernel_rfl) (by kernel_rfl);have h37:=@run_callFunc_extern Tryz.prog 294 _ (ReflectliteType.method ReflectliteType.elem) Tryz.func294 (by kernel_rfl) (by kernel_rfl) (by kernel_rfl) (by kernel_rfl);have h38:=@run_callFunc_extern Tryz.prog 295 _ (ReflectliteType.relation "Implements" ReflectliteType.implements_) Tryz.func295 (by kernel_rfl) (by kernel_rfl) (by kernel_rfl) (by kernel_rfl);have h10:=@run_callFunc_extern Tryz.prog 59 _ ReflectliteType.typeOf Tryz.func59 (by kernel_rfl) (by kernel_rfl) (by kernel_rfl) (by kernel_rfl);have h35:=@run_callFunc_extern Tryz.prog 292 _ (ReflectliteType.relation "AssignableTo" ReflectliteType.assignableTo) Tryz.func292 (by kernel_rfl) (by kernel_rfl) (by kernel_rfl) (by kernel_rfl);have h11:=@run_callFunc_extern Tryz.prog 99 _ (ReflectliteValue.method (ReflectliteValue.valueError "reflectlite.Value.Elem" 0) ReflectliteValue.elem) Tryz.func99 (by kernel_rfl) (by kernel_rfl) (by kernel_rfl) (by kernel_rfl);have h12:=@run_callFunc_extern Tryz.prog 100 _ ReflectliteValue.set Tryz.func100 (by kernel_rfl) (by kernel_rfl) (by kernel_rfl) (by kernel_rfl);have tO:=Tryz.typeOf25;have mA:=Tryz.methodAssignableTo;have a25:=Tryz.assignable25;have v25:=Tryz.valueOf25;have f6:=Tryz.valueOf27;have f7:=Tryz.type27;have mK:=Tryz.methodKind;have mE:=Tryz.methodElem;have mI:=Tryz.methodImplements;have k27:=Tryz.kind27;have k25:=Tryz.kind25;have e27:=Tryz.elem27;have i25:=Tryz.implements25;have n8:=Tryz.isNil27 ⟨w.heap.size,0,none⟩ t ((w.alloc (.cells #[.pointer (some t)] 72)).alloc (.cells #[.pointer (some ⟨27,72,none⟩),.pointer (some ⟨w.heap.size,0,none⟩),.int .u64 150] 96)) (by simp);have hlt:13<w.heap.size:=World.block_lt_of_cell? w ⟨13,0,none⟩ hg;have hg2:((w.alloc (.cells #[.pointer (some t)] 72)).alloc (.cells #[.pointer (some ⟨27,72,none⟩),.pointer (some ⟨w.heap.size,0,none⟩),.int .u64 150] 96)).cell? ⟨13,0,none⟩=some (.iface 147 (.agg #[.pointer (some ⟨27,27,none⟩)])):=by
  rw [World.cell?_alloc_lt _ _ ⟨13,0,none⟩ (by simp;omega),World.cell?_alloc_lt _ _ ⟨13,0,none⟩ hlt];exact hg
 have htl:t.block<w.heap.size:=by
  rcases Nat.lt_or_ge t.block w.heap.size with h|h
  ·exact h
  ·simp [World.cell?,Array.getElem?_eq_none h] at ht0
 have el:=Tryz.elemV27 ⟨w.heap.size,0,none⟩ t (((w.alloc (.cells #[.pointer (some t)] 72)).alloc (.cells #[.pointer (some ⟨27,72,none⟩),.pointer (some ⟨w.heap.size,0,none⟩),.int .u64 150] 96)).alloc (.cells #[.pointer (some ⟨27,72,none⟩),.pointer (some ⟨w.heap.size,0,none⟩),.int .u64 150] 96)) (by rw [World.cell?_alloc_lt _ _ ⟨w.heap.size,0,none⟩ (by simp;omega)];simp);have st:=Tryz.set25 t ⟨w.heap.size+1+1+1,0,none⟩ e old ((((w.alloc (.cells #[.pointer (some t)] 72)).alloc (.cells #[.pointer (some ⟨27,72,none⟩),.pointer (some ⟨w.heap.size,0,none⟩),.int .u64 150] 96)).alloc (.cells #[.pointer (some ⟨27,72,none⟩),.pointer (some ⟨w.heap.size,0,none⟩),.int .u64 150] 96)).alloc (.cells #[.pointer (some e)] 70))
  (by rw [World.cell?_alloc_at _ _ _ _ (by simp)];rfl)
  (by rw [World.cell?_alloc_lt _ _ t (by simp;omega),World.cell?_alloc_lt _ _ t (by simp;omega),World.cell?_alloc_lt _ _ t (by simp;omega),World.cell?_alloc_lt _ _ t htl];exact ht0)
  (by rw [World.frozen?_alloc_old _ _ t (by simp;omega),World.frozen?_alloc_old _ _ t (by simp;omega),World.frozen?_alloc_old _ _ t (by simp;omega),World.frozen?_alloc_old _ _ t (Nat.ne_of_lt htl)];exact hf0)
 go_enter Tryz.func25,Tryz.ntmps25
 go_wp2
 refine wp_loop_rounds 1 ?_;rw [rounds_succ]
 go_wp2
 go_ret;exact ⟨rfl,rfl⟩
theorem Tryz.notAssignable (w:World):(ReflectliteType.relation "AssignableTo" ReflectliteType.assignableTo #[.agg #[.pointer (some ⟨27,298,none⟩)],.iface 147 (.agg #[.pointer (some ⟨27,70,none⟩)])]).run Tryz.prog w=.ok (.bool false) w:=by kernel_rfl
theorem as_miss (e t:Addr) (old:Value) (w:World) (hg:w.cell? ⟨13,0,none⟩=some (.iface 147 (.agg #[.pointer (some ⟨27,27,none⟩)]))) (ht0:w.cell? t=some old):
  Calls Tryz.prog 25 #[.iface 298 (.pointer (some e)),.iface 72 (.pointer (some t))] w fun ev w'=>ev=.returned (.bool false)∧((w.alloc (.cells #[.pointer (some t)] 72)).alloc (.cells #[.pointer (some ⟨27,72,none⟩),.pointer (some ⟨w.heap.size,0,none⟩),.int .u64 150] 96)).alloc (.cells #[.pointer (some ⟨27,72,none⟩),.pointer (some ⟨w.heap.size,0,none⟩),.int .u64 150] 96)=w':=by
 have h6:=@run_callFunc_extern Tryz.prog 55 _ (fun args=>ReflectliteValue.unpack (args.getD 0 (.tuple #[]))) Tryz.func55 (by kernel_rfl) (by kernel_rfl) (by kernel_rfl) (by kernel_rfl);have h7:=@run_callFunc_extern Tryz.prog 56 _ (ReflectliteValue.methodAny (ReflectliteValue.valueError "reflectlite.Value.Type" 0) (fun t _ _ _=>ReflectliteType.toType t)) Tryz.func56 (by kernel_rfl) (by kernel_rfl) (by kernel_rfl) (by kernel_rfl);have h8:=@run_callFunc_extern Tryz.prog 57 _ (ReflectliteValue.method (ReflectliteValue.valueError "reflectlite.Value.IsNil" 0) ReflectliteValue.isNil) Tryz.func57 (by kernel_rfl) (by kernel_rfl) (by kernel_rfl) (by kernel_rfl);have h27:=@run_callFunc_extern Tryz.prog 282 _ (ReflectliteType.abiMethod fun t=>do pure (.int .u8 (←Rtype.kind t))) Tryz.func282 (by kernel_rfl) (by kernel_rfl) (by kernel_rfl) (by kernel_rfl);have h37:=@run_callFunc_extern Tryz.prog 294 _ (ReflectliteType.method ReflectliteType.elem) Tryz.func294 (by kernel_rfl) (by kernel_rfl) (by kernel_rfl) (by kernel_rfl);have h38:=@run_callFunc_extern Tryz.prog 295 _ (ReflectliteType.relation "Implements" ReflectliteType.implements_) Tryz.func295 (by kernel_rfl) (by kernel_rfl) (by kernel_rfl) (by kernel_rfl);have h10:=@run_callFunc_extern Tryz.prog 59 _ ReflectliteType.typeOf Tryz.func59 (by kernel_rfl) (by kernel_rfl) (by kernel_rfl) (by kernel_rfl);have h35:=@run_callFunc_extern Tryz.prog 292 _ (ReflectliteType.relation "AssignableTo" ReflectliteType.assignableTo) Tryz.func292 (by kernel_rfl) (by kernel_rfl) (by kernel_rfl) (by kernel_rfl);have tO:=Tryz.isTypeOf;have mA:=Tryz.methodAssignableTo;have a25:=Tryz.notAssignable;have nA:=Tryz.noAsE;have uE:=Tryz.noUnwrapE;have vE:=Tryz.noUnwrapsE;have f6:=Tryz.valueOf27;have f7:=Tryz.type27;have mK:=Tryz.methodKind;have mE:=Tryz.methodElem;have mI:=Tryz.methodImplements;have k27:=Tryz.kind27;have k25:=Tryz.kind25;have e27:=Tryz.elem27;have i25:=Tryz.implements25;have n8:=Tryz.isNil27 ⟨w.heap.size,0,none⟩ t ((w.alloc (.cells #[.pointer (some t)] 72)).alloc (.cells #[.pointer (some ⟨27,72,none⟩),.pointer (some ⟨w.heap.size,0,none⟩),.int .u64 150] 96)) (by simp);have hlt:13<w.heap.size:=World.block_lt_of_cell? w ⟨13,0,none⟩ hg;have hg2:((w.alloc (.cells #[.pointer (some t)] 72)).alloc (.cells #[.pointer (some ⟨27,72,none⟩),.pointer (some ⟨w.heap.size,0,none⟩),.int .u64 150] 96)).cell? ⟨13,0,none⟩=some (.iface 147 (.agg #[.pointer (some ⟨27,27,none⟩)])):=by
  rw [World.cell?_alloc_lt _ _ ⟨13,0,none⟩ (by simp;omega),World.cell?_alloc_lt _ _ ⟨13,0,none⟩ hlt];exact hg
 have htl:t.block<w.heap.size:=by
  rcases Nat.lt_or_ge t.block w.heap.size with h|h
  ·exact h
  ·simp [World.cell?,Array.getElem?_eq_none h] at ht0
 go_enter Tryz.func25,Tryz.ntmps25
 go_wp2
 refine wp_loop_rounds 1 ?_;rw [rounds_succ]
 go_wp2
 go_ret;exact ⟨rfl,rfl⟩
structure Er where
 code:Nat
 at?:Option Int
abbrev Er.nil:Er:=⟨0,none⟩
abbrev Er.base (k:Nat):Er:=⟨k,none⟩
abbrev Er.fault (a:Int) (k:Nat):Er:=⟨k,some a⟩
def gE (k:Nat):Nat:=[2,0,1,3,4,5,6,7,8,9,10,11,12].getD k 0
def errHead:List UInt8:=[99,104,97,110,100,108,101,114,121,58,32]
def errNames:List (List UInt8):=[[116,101,120,116],[98,111,117,110,100],[115,104,97,112,101],[107,105,110,100],[110,97,109,101],[110,111,110,101],[101,120,105,115,116],[102,117,108,108],[111,114,100,101,114],[111,117,116],[99,108,97,115,104],[115,117,109],[111,102,102]]
def errTx (c:Nat):List UInt8:=errHead++errNames.getD (c-1) []
abbrev sentV (E:Nat→Addr) (k:Nat):Value:= .iface 298 (.pointer (some (E k)))
structure Env (E:Nat→Addr) (w:World):Prop where
 err:∀k,k<13→w.cell? ⟨gE k,0,none⟩=some (sentV E k)
 row:∀k,k<13→∃c t,w.heap[(E k).block]? =some (.cells c t (0,0))
 inj:∀i j,i<13→j<13→E i=E j→i=j
 txt:∀k,k<13→∃s:ByteArray,w.cell? (E k)=some (.string s)∧s.data.toList=errTx (k+1)
 typ:w.cell? ⟨13,0,none⟩=some (.iface 147 (.agg #[.pointer (some ⟨27,27,none⟩)]))
theorem lt_of_cell {w:World} {a:Addr} {v:Value} (h:w.cell? a=some v):a.block<w.heap.size:=World.block_lt_of_cell? w a h
theorem Env.ext {E:Nat→Addr} {w w':World} (h:Env E w) (hb:Below w.heap.size w w'):Env E w' where
 err:=fun k hk=>by rw [hb.cell (p:=⟨gE k,0,none⟩) (lt_of_cell (h.err k hk))];exact h.err k hk
 row:=fun k hk=>by
  obtain ⟨c,t,hc⟩:=h.row k hk;exact ⟨c,t,by rw [hb.block _ (Array.getElem?_eq_some_iff.1 hc).1];exact hc⟩
 inj:=h.inj
 txt:=fun k hk=>by
  obtain ⟨s,hs,ht⟩:=h.txt k hk;exact ⟨s,by rw [hb.cell (lt_of_cell hs)];exact hs,ht⟩
 typ:=by rw [hb.cell (p:=⟨13,0,none⟩) (lt_of_cell h.typ)];exact h.typ
theorem Env.eText {E:Nat→Addr} {w:World} (h:Env E w):w.cell? ⟨2,0,none⟩=some (sentV E 0):=h.err 0 (by decide)
theorem Env.eBound {E:Nat→Addr} {w:World} (h:Env E w):w.cell? ⟨0,0,none⟩=some (sentV E 1):=h.err 1 (by decide)
theorem Env.eShape {E:Nat→Addr} {w:World} (h:Env E w):w.cell? ⟨1,0,none⟩=some (sentV E 2):=h.err 2 (by decide)
theorem Env.eKind {E:Nat→Addr} {w:World} (h:Env E w):w.cell? ⟨3,0,none⟩=some (sentV E 3):=h.err 3 (by decide)
theorem Env.eName {E:Nat→Addr} {w:World} (h:Env E w):w.cell? ⟨4,0,none⟩=some (sentV E 4):=h.err 4 (by decide)
theorem Env.eNone {E:Nat→Addr} {w:World} (h:Env E w):w.cell? ⟨5,0,none⟩=some (sentV E 5):=h.err 5 (by decide)
theorem Env.eExist {E:Nat→Addr} {w:World} (h:Env E w):w.cell? ⟨6,0,none⟩=some (sentV E 6):=h.err 6 (by decide)
theorem Env.eFull {E:Nat→Addr} {w:World} (h:Env E w):w.cell? ⟨7,0,none⟩=some (sentV E 7):=h.err 7 (by decide)
theorem Env.eOrder {E:Nat→Addr} {w:World} (h:Env E w):w.cell? ⟨8,0,none⟩=some (sentV E 8):=h.err 8 (by decide)
theorem Env.eOut {E:Nat→Addr} {w:World} (h:Env E w):w.cell? ⟨9,0,none⟩=some (sentV E 9):=h.err 9 (by decide)
theorem Env.eClash {E:Nat→Addr} {w:World} (h:Env E w):w.cell? ⟨10,0,none⟩=some (sentV E 10):=h.err 10 (by decide)
theorem Env.eSum {E:Nat→Addr} {w:World} (h:Env E w):w.cell? ⟨11,0,none⟩=some (sentV E 11):=h.err 11 (by decide)
theorem Env.eOff {E:Nat→Addr} {w:World} (h:Env E w):w.cell? ⟨12,0,none⟩=some (sentV E 12):=h.err 12 (by decide)
def IsErr (E:Nat→Addr) (w:World) (v:Value) (er:Er):Prop:=
 (er=⟨0,none⟩∧v=.nilIface)∨(∃k,k<13∧er=⟨k+1,none⟩∧v=sentV E k)∨
 (∃k a b,k<13∧er=⟨k+1,some a⟩∧v=.iface 70 (.pointer (some ⟨b,0,none⟩))∧w.cell? ⟨b,0,none⟩=some (.int .i64 a)∧w.cell? ⟨b,1,none⟩=some (sentV E k))
theorem IsErr.nil (E:Nat→Addr) (w:World):IsErr E w .nilIface Er.nil:= .inl ⟨rfl,rfl⟩
theorem IsErr.base (E:Nat→Addr) (w:World) (k:Nat) (hk:k<13):IsErr E w (sentV E k) (Er.base (k+1)):= .inr (.inl ⟨k,hk,rfl,rfl⟩)
theorem IsErr.fault (E:Nat→Addr) (w:World) (k:Nat) (hk:k<13) (a:Int) (b:Nat) (h0:w.cell? ⟨b,0,none⟩=some (.int .i64 a)) (h1:w.cell? ⟨b,1,none⟩=some (sentV E k)):
  IsErr E w (.iface 70 (.pointer (some ⟨b,0,none⟩))) (Er.fault a (k+1)):= .inr (.inr ⟨k,a,b,hk,rfl,rfl,h0,h1⟩)
theorem IsErr.ext {E:Nat→Addr} {w w':World} {v:Value} {er:Er} (h:IsErr E w v er) (hb:Below w.heap.size w w'):IsErr E w' v er:=by
 rcases h with h|h|⟨k,a,b,hk,h1,h2,h3,h4⟩
 ·exact .inl h
 ·exact .inr (.inl h)
 ·exact .inr (.inr ⟨k,a,b,hk,h1,h2,by rw [hb.cell (p:=⟨b,0,none⟩) (lt_of_cell h3)];exact h3,by rw [hb.cell (p:=⟨b,1,none⟩) (lt_of_cell h4)];exact h4⟩)
theorem is_any {E:Nat→Addr} {w:World} {v:Value} {er:Er} (hE:Env E w) (hv:IsErr E w v er) (h0:er.code≠0) (j:Nat) (hj:j<13):
  Calls Tryz.prog 26 #[v,sentV E j] w fun e w'=>e=.returned (.bool (decide (er.code=j+1)))∧w=w':=by
 obtain ⟨cj,tj,rj⟩:=hE.row j hj;rcases hv with ⟨rfl,_⟩|⟨k,hk,rfl,rfl⟩|⟨k,a,b,hk,rfl,rfl,h3,h4⟩
 ·exact absurd rfl h0
 ·obtain ⟨ck,tk,rk⟩:=hE.row k hk;by_cases e:k=j
  ·subst e;simp only [decide_true];exact is_same _ _
  ·have e':¬(k+1=j+1):=by omega
   simp only [e',decide_false];exact is_other _ _ _ _ _ _ w (fun h=>e (hE.inj k j hk hj h)) rk rj
 ·obtain ⟨ck,tk,rk⟩:=hE.row k hk;by_cases e:k=j
  ·subst e;simp only [decide_true];exact is_fault_same b 0 _ w (by simpa using h4)
  ·have e':¬(k+1=j+1):=by omega
   simp only [e',decide_false];exact is_fault_other b 0 _ _ _ _ _ _ w (by simpa using h4) (fun h=>e (hE.inj k j hk hj h)) rk rj
theorem as_hit_grown {E:Nat→Addr} {w:World} (hE:Env E w) (e t:Addr) (old:Value) (ht:w.cell? t=some old) (hf:w.frozen? t=false):
  Calls Tryz.prog 25 #[.iface 70 (.pointer (some e)),.iface 72 (.pointer (some t))] w fun ev w'=>
   ev=.returned (.bool true)∧w'.cell? t=some (.pointer (some e))∧w.grownBy w' (some t.block):=by
 refine (as_hit e t old w hE.typ ht hf).mono ?_;rintro ev w' ⟨rfl,rfl⟩;have hlt:t.block<w.heap.size:=lt_of_cell ht;refine ⟨rfl,?_,⟨rfl,rfl,rfl,by simp [World.setCell];omega,fun k hk hne=>?_⟩⟩
 ·apply World.cell?_setCell_same';rw [World.cell?_alloc_lt _ _ t (by simp;omega),World.cell?_alloc_lt _ _ t (by simp;omega),World.cell?_alloc_lt _ _ t (by simp;omega),World.cell?_alloc_lt _ _ t hlt,ht];rfl
 ·have:k≠t.block:=fun h=>hne (by rw [h])
  rw [Below.heap_setCell _ _ _ _ this,Below.heap_alloc _ _ _ (by simp;omega),Below.heap_alloc _ _ _ (by simp;omega),Below.heap_alloc _ _ _ (by simp;omega),Below.heap_alloc _ _ _ hk]
theorem as_miss_below {E:Nat→Addr} {w:World} (hE:Env E w) (e t:Addr) (old:Value) (ht:w.cell? t=some old):
  Calls Tryz.prog 25 #[.iface 298 (.pointer (some e)),.iface 72 (.pointer (some t))] w fun ev w'=>
   ev=.returned (.bool false)∧Below w.heap.size w w':=by
 refine (as_miss e t old w hE.typ ht).mono ?_;rintro ev w' ⟨rfl,rfl⟩;exact ⟨rfl,(((Below.refl _ _).alloc (Nat.le_refl _) _).alloc (by simp) _).alloc (by simp;omega) _⟩
theorem IsErr.nil_inv {E:Nat→Addr} {w:World} {v:Value} {a:Option Int} (h:IsErr E w v ⟨0,a⟩):v=.nilIface:=by
 rcases h with ⟨_,h⟩|⟨k,_,h,_⟩|⟨k,a,b,_,h,_⟩
 ·exact h
 ·simp at h
 ·simp at h
theorem IsErr.base_inv {E:Nat→Addr} {w:World} {v:Value} {k:Nat} (h:IsErr E w v ⟨k+1,none⟩):k<13∧v=sentV E k:=by
 rcases h with ⟨h,_⟩|⟨j,h1,h,h2⟩|⟨j,a,b,_,h,_⟩
 ·simp at h
 ·simp at h;subst h;exact ⟨h1,h2⟩
 ·simp at h
theorem IsErr.fault_inv {E:Nat→Addr} {w:World} {v:Value} {k:Nat} {a:Int} (h:IsErr E w v ⟨k+1,some a⟩):
  ∃b,k<13∧v=.iface 70 (.pointer (some ⟨b,0,none⟩))∧w.cell? ⟨b,0,none⟩=some (.int .i64 a)∧w.cell? ⟨b,1,none⟩=some (sentV E k):=by
 rcases h with ⟨h,_⟩|⟨j,h1,h,h2⟩|⟨j,a',b,h1,h,h2,h3,h4⟩
 ·simp at h
 ·simp at h
 ·simp at h;obtain ⟨rfl,rfl⟩:=h;exact ⟨b,h1,h2,h3,h4⟩
theorem IsErr.some_inv {E:Nat→Addr} {w:World} {v:Value} {er:Er} (h:IsErr E w v er) (h0:er.code≠0):∃t x,v=.iface t x:=by
 rcases h with ⟨rfl,_⟩|⟨j,h1,h,h2⟩|⟨j,a',b,h1,h,h2,h3,h4⟩
 ·exact absurd rfl h0
 ·exact ⟨_,_,h2⟩
 ·exact ⟨_,_,h2⟩
end Go.Proofs.YtaabgmbjmfjdjaaGreatDoor
