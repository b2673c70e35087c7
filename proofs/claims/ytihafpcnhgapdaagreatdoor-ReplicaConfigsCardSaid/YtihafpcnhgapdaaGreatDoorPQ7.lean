/- The forms of the translated functions,their contracts and the plain laws behind them,put together by a program. -/
import Derived.Test.YtihafpcnhgapdaaGreatDoorPQ6
import Derived.MapKept
import Derived.Great.FillDense
import Derived.Laws.IdiomRangeMap
set_option linter.unusedSimpArgs false
set_option linter.unusedVariables false
set_option maxRecDepth 1000000
set_option maxHeartbeats 8000000
section
namespace Go.Sh
open Go Go.MapKept
section
variable {P:Program} {w:World} {K:Value→World→Prop}
theorem sem_buildSlice {t e:TypeId} {len:Nat} {parts:Array (Nat×Value)} {ie:TypeInfo} {z:Value} {l:List Value}
 (hu:P.underlying t=some (.slice e)) (hie:P.info? e=some ie) (hz:ie.zero=some z) (hsmall:len*ie.size≤2 ^ 24) (hpos:0<len*ie.size)
 (hf:Instr.fill (fun i=>some (i*ie.size,ie.size)) ((Array.range (len*ie.size)).map (z.cells[· % z.cells.size]!)) parts.toList=some l.toArray)
 (hk : ∀ b w',New w w' b (.cells l.toArray e)→Blk w' b l e→K (.slice (some ⟨b,0,none⟩) len len) w'):semK P (Instr.buildSlice t len parts) w K:=
 sem_newSlice (fun w=>by
  have h1 : ¬ len*ie.size > 2 ^ 24:=by omega
  have h2 : ¬ len*ie.size=0:=by omega
  simp [Instr.buildSlice,run_underlying hu,sizeOf,typeInfo,zeroValue,hie,hz,h1,h2,hf,newRow]) hk
theorem sem_lit {t e:TypeId} {len:Nat} {parts:Array (Nat×Value)} {ie:TypeInfo} {z:Value} (vs:List Value) {l:List Value} {k:Nat}
 (hu:P.underlying t=some (.slice e)) (hie:P.info? e=some ie) (hz:ie.zero=some z) (hk:ie.size=k) (hk0:0<k) (hlen:len=vs.length) (hl0:0<len) (hsmall:len*k≤2 ^ 24)
 (hp:parts.toList=(vs.zipIdx 0).map fun x=>(x.2,x.1)) (h1 : ∀ v∈vs,v.cells.size=k) (hl:(vs.flatMap fun v=>v.cells.toList)=l)
 (hK : ∀ b w',New w w' b (.cells l.toArray e)→Blk w' b l e→K (.slice (some ⟨b,0,none⟩) len len) w'):semK P (Instr.buildSlice t len parts) w K:=by
 subst hk hl
 refine sem_buildSlice hu hie hz hsmall (Nat.mul_pos hl0 hk0) ?_ hK
 rw [hp]
 exact Great.fill_whole hk0 vs _ h1 (by simp [hlen])
theorem sem_alloc {t:TypeId} {old:Value} {i:TypeInfo} {z:Value} {l:List Value} (hi:P.info? t=some i) (hz:i.zero=some z) (hl:z.cells=l.toArray)
 (hk : ∀ b w',New w w' b (.cells l.toArray t)→Blk w' b l t→K (.pointer (some ⟨b,0,none⟩)) w'):semK P (Instr.alloc t true old) w K:=
 sem_new (fun w=>by simp [Instr.alloc,zeroValue,typeInfo,hi,hz,newVar,newRow,hl]) hk
structure MapB (d:TypeDesc) (w:World) (b:Nat) (es:List MapEntry) (clock:Nat):Prop where
 get:w.heap[b]? = some (.map es.toArray clock)
 st:Stamped es.toArray clock
 key : ∀ x∈es,IsKey d x.key
theorem upd_set {b:Nat} {o o':Obj} (hb:w.heap[b]? = some o):Upd w {w with heap:=w.heap.setIfInBounds b o'} b o':=
 ⟨(heap_set hb).1,by simp,⟨rfl,rfl,rfl,by simp,fun r _ hn=>(heap_set hb).2 r hn⟩⟩
theorem sem_makeMap {t:TypeId} {d:TypeDesc} (hk : ∀ b w',b=w.heap.size→w'.heap.size=b+1→MapB d w' b [] 0→Mod NoB w w'→K (.map (some b)) w'):semK P (Instr.makeMap t none) w K:=
 sem_newMap (fun w=>by simp [Instr.makeMap]) fun b w' hn=>hk b w' hn.at_ hn.size ⟨hn.get,stamped_empty 0,by simp⟩ hn.mod
end
theorem condK_i {b:Bool} {x y:Prop} (h1:b=true→x) (h2:b=false→y):condK b x y:=by cases b <;> simp_all [condK]
theorem callFV_of {P:Program} {f:FuncId} {first cap:Array Value} {args:List Value} {w:World} {pan:List PanicEntry→World→Prop} {K:Value→World→Prop} (he:enters P f=true)
 (h:callK P f (first.toList++args++cap.toList) w pan K):callFV P (.func (.func f) first cap) args w pan K:=by
 unfold callFV
 simp only [he,cond_true]
 exact h
theorem info_of {P:Program} {T:TypeId} {z:Value} {n m:Nat} (h1:(P.info? T).bind (·.zero)=some z) (h2:(P.info? T).map (·.size)=some n) (h3:(P.info? T).map (·.bytes)=some m) :
 ∃ i,P.info? T=some i∧i.zero=some z∧i.size=n∧i.bytes=m:=by
 cases h:P.info? T with
 | none=>simp [h] at h2
 | some i=>exact ⟨i,rfl,by simpa [h] using h1,by simpa [h] using h2,by simpa [h] using h3⟩
theorem wrap_nat {n:Nat} (h:n<9223372036854775807):IntKind.i64.wrap ((n:Int)+1)=((n+1:Nat):Int):=by
 rw [wrap_i64 (by omega)]; rfl
end Go.Sh
end
