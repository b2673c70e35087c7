/- The forms of the translated functions,their contracts and the plain laws behind them,put together by a program. -/
import Derived.Test.YtmgcoepbccgjfaaGreatDoorPB7
import Derived.MapKept
import Derived.Great.FillDense
import Derived.Laws.IdiomRangeMap
set_option linter.unusedSimpArgs false
set_option linter.unusedVariables false
set_option maxRecDepth 1000000
set_option maxHeartbeats 8000000
section
namespace Go.Sh
open Go Go.MapKept
section
variable {P:Program} {w:World} {K:Value->World->Prop}
theorem sem_buildSlice {t e:TypeId} {len:Nat} {parts:Array (Nat×Value)} {ie:TypeInfo} {z:Value} {l:List Value}
 (hu:P.underlying t=some (.slice e)) (hie:P.info? e=some ie) (hz:ie.zero=some z) (hsmall:len*ie.size<=2 ^ 24) (hpos:0<len*ie.size)
 (hf:Instr.fill (λi=>some (i*ie.size,ie.size)) ((Array.range (len*ie.size)).map (z.cells[· % z.cells.size]!)) parts.toList=some l.toArray)
 (hk : ∀ b w',New w w' b (.cells l.toArray e)->Blk w' b l e->K (.slice (some ⟨b,0,none⟩) len len) w'):semK P (Instr.buildSlice t len parts) w K:=
 sem_newSlice (λw=>by
  have h1 : ¬ len*ie.size > 2 ^ 24:=by omega
  have h2 : ¬ len*ie.size=0:=by omega
  simp [Instr.buildSlice,run_underlying hu,sizeOf,typeInfo,zeroValue,hie,hz,h1,h2,hf,newRow]) hk
theorem sem_lit {t e:TypeId} {len:Nat} {parts:Array (Nat×Value)} {ie:TypeInfo} {z:Value} (vs:List Value) {l:List Value} {k:Nat}
 (hu:P.underlying t=some (.slice e)) (hie:P.info? e=some ie) (hz:ie.zero=some z) (hk:ie.size=k) (hk0:0<k) (hlen:len=vs.length) (hl0:0<len) (hsmall:len*k<=2 ^ 24)
 (hp:parts.toList=(vs.zipIdx 0).map λx=>(x.2,x.1)) (h1 : ∀ v∈vs,v.cells.size=k) (hl:(vs.flatMap λv=>v.cells.toList)=l)
 (hK : ∀ b w',New w w' b (.cells l.toArray e)->Blk w' b l e->K (.slice (some ⟨b,0,none⟩) len len) w'):semK P (Instr.buildSlice t len parts) w K:=by
 subst hk hl
 refine sem_buildSlice hu hie hz hsmall (Nat.mul_pos hl0 hk0) ?_ hK
 rw [hp]
 exact Great.fill_whole hk0 vs _ h1 (by simp [hlen])
theorem sem_alloc {t:TypeId} {old:Value} {i:TypeInfo} {z:Value} {l:List Value} (hi:P.info? t=some i) (hz:i.zero=some z) (hl:z.cells=l.toArray)
 (hk : ∀ b w',New w w' b (.cells l.toArray t)->Blk w' b l t->K (.pointer (some ⟨b,0,none⟩)) w'):semK P (Instr.alloc t true old) w K:=
 sem_new (λw=>by simp [Instr.alloc,zeroValue,typeInfo,hi,hz,newVar,newRow,hl]) hk
structure MapB (d:TypeDesc) (w:World) (b:Nat) (es:List MapEntry) (clock:Nat):Prop where
 get:w.heap[b]? = some (.map es.toArray clock)
 st:Stamped es.toArray clock
 key : ∀ x∈es,IsKey d x.key
theorem upd_set {b:Nat} {o o':Obj} (hb:w.heap[b]? = some o):Upd w {w with heap:=w.heap.setIfInBounds b o'} b o':=
 ⟨(heap_set hb).1,by simp,⟨rfl,rfl,rfl,by simp,λr _ hn=>(heap_set hb).2 r hn⟩⟩
theorem sem_makeMap {t:TypeId} {d:TypeDesc} (hk : ∀ b w',b=w.heap.size->w'.heap.size=b+1->MapB d w' b [] 0->Mod NoB w w'->K (.map (some b)) w'):semK P (Instr.makeMap t none) w K:=
 sem_newMap (λw=>by simp [Instr.makeMap]) λb w' hn=>hk b w' hn.at_ hn.size ⟨hn.get,stamped_empty 0,by simp⟩ hn.mod
theorem sem_lookup {d:TypeDesc} {t kt et:TypeId} {i:TypeInfo} {z:Value} (hm:P.underlying t=some (.map kt et)) (hd:P.underlying kt=some d) (hi:P.info? et=some i) (hz:i.zero=some z)
 {b:Nat} {es:List MapEntry} {clock:Nat} (hb:MapB d w b es clock) {key:Value} (hkey:IsKey d key)
 (h1 : ∀ e∈es,e.key=key->K e.val w) (h2:(∀ e∈es,e.key≠key)->K z w):semK P (Instr.lookup t (.map (some b)) key false) w K:=by
 rcases findNow_spec hkey es 0 hb.key with ⟨g1,g2⟩ | ⟨j,e,g1,g2,g3⟩
 ·exact sem_ok (by simp [Instr.lookup,run_underlying hm,MapKept.run_getObj_map hb.get,MapKept.run_checkKey hd hkey,MapKept.run_findKey hd g1,zeroValue,typeInfo,hi,hz]) (h2 g2)
 ·exact sem_ok (by simp [Instr.lookup,run_underlying hm,MapKept.run_getObj_map hb.get,MapKept.run_checkKey hd hkey,MapKept.run_findKey hd g1]) (h1 e (List.mem_of_getElem? g2) g3)
theorem semU_mapPush {d:TypeDesc} {t kt et:TypeId} (hm:P.underlying t=some (.map kt et)) (hd:P.underlying kt=some d)
 {b:Nat} {es:List MapEntry} {clock:Nat} (hb:MapB d w b es clock) {key val:Value} (hkey:IsKey d key) (hno : ∀ e∈es,e.key≠key) {K:World->Prop}
 (hk : ∀ w',MapB d w' b (es++[⟨key,val,clock⟩]) (clock+1)->Mod (λx=>x=b) w w'->w'.heap.size=w.heap.size->K w'):semU P (Instr.mapUpdate t (.map (some b)) key val) w K:=by
 rcases findNow_spec hkey es 0 hb.key with ⟨g1,g2⟩ | ⟨j,e,g1,g2,g3⟩
 ·have hu:=upd_set (o':=.map (es.toArray.push ⟨key,val,clock⟩) (clock+1)) hb.get
  refine ⟨_,by simp [Instr.mapUpdate,run_underlying hm,MapKept.run_getObj_map hb.get,MapKept.run_checkKey hd hkey,MapKept.run_findKey hd g1,MapKept.run_setObj_map _ hb.get],hk _ ⟨?_,?_,?_⟩ hu.mod hu.size⟩
  ·simpa using hu.get
  ·simpa using stamped_push hb.st (key:=key) (val:=val) (by simpa using hno)
  ·intro x hx
   rcases List.mem_append.1 hx with h | h
   ·exact hb.key x h
   ·simp at h; subst h; exact hkey
 ·exact absurd g3 (hno e (List.mem_of_getElem? g2))
end
theorem condK_i {b:Bool} {x y:Prop} (h1:b=true->x) (h2:b=false->y):condK b x y:=by cases b <;> simp_all [condK]
theorem callFV_of {P:Program} {f:FuncId} {first cap:Array Value} {args:List Value} {w:World} {pan:List PanicEntry->World->Prop} {K:Value->World->Prop} (he:enters P f=true)
 (h:callK P f (first.toList++args++cap.toList) w pan K):callFV P (.func (.func f) first cap) args w pan K:=by
 unfold callFV
 simp only [he,cond_true]
 exact h
theorem info_of {P:Program} {T:TypeId} {z:Value} {n m:Nat} (h1:(P.info? T).bind (·.zero)=some z) (h2:(P.info? T).map (·.size)=some n) (h3:(P.info? T).map (·.bytes)=some m) :
 ∃ i,P.info? T=some i/\i.zero=some z/\i.size=n/\i.bytes=m:=by
 cases h:P.info? T with
 | none=>simp [h] at h2
 | some i=>exact ⟨i,rfl,by simpa [h] using h1,by simpa [h] using h2,by simpa [h] using h3⟩
theorem wrap_nat {n:Nat} (h:n<9223372036854775807):IntKind.i64.wrap ((n:Int)+1)=((n+1:Nat):Int):=by
 rw [wrap_i64 (by omega)]; rfl
end Go.Sh
end
