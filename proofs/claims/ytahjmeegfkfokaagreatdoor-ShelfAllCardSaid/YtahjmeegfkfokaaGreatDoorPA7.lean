/- The forms of the translated functions,their contracts and the plain laws behind them,put together by a program. -/
import Derived.Test.YtahjmeegfkfokaaGreatDoorPA6
import Derived.MapKept
import Derived.Great.FillDense
import Derived.Laws.IdiomRangeMap
set_option linter.unusedSimpArgs false
set_option linter.unusedVariables false
set_option maxRecDepth 100000
set_option maxHeartbeats 4000000
section
namespace Go.Sh
open Go Go.MapKept
section
variable {P:Program} {w:World} {K:Value→World→Prop}
theorem qO {t e:TypeId} {len:Nat} {parts:Array (Nat×Value)} {ie:TypeInfo} {z:Value} {l:List Value}
 (hu:P.underlying t=some (.slice e)) (hie:P.info? e=some ie) (hz:ie.zero=some z) (hsmall:len*ie.size≤2 ^ 24) (hpos:0<len*ie.size)
 (hf:Instr.fill (fun i=>some (i*ie.size,ie.size)) ((Array.range (len*ie.size)).map (z.cells[· % z.cells.size]!)) parts.toList=some l.toArray)
 (hk : ∀ b w',New w w' b (.cells l.toArray e)→Blk w' b l e→K (.slice (some ⟨b,0,none⟩) len len) w'):aI P (Instr.buildSlice t len parts) w K:=
 jQ (fun w=>by
  have h1 : ¬ len*ie.size > 2 ^ 24:=by omega
  have h2 : ¬ len*ie.size=0:=by omega
  simp [Instr.buildSlice,run_underlying hu,sizeOf,typeInfo,zeroValue,hie,hz,h1,h2,hf,newRow]) hk
theorem bZ {t e:TypeId} {len:Nat} {parts:Array (Nat×Value)} {ie:TypeInfo} {z:Value} (vs:List Value) {l:List Value} {k:Nat}
 (hu:P.underlying t=some (.slice e)) (hie:P.info? e=some ie) (hz:ie.zero=some z) (hk:ie.size=k) (hk0:0<k) (hlen:len=vs.length) (hl0:0<len) (hsmall:len*k≤2 ^ 24)
 (hp:parts.toList=(vs.zipIdx 0).map fun x=>(x.2,x.1)) (h1 : ∀ v∈vs,v.cells.size=k) (hl:(vs.flatMap fun v=>v.cells.toList)=l)
 (hK : ∀ b w',New w w' b (.cells l.toArray e)→Blk w' b l e→K (.slice (some ⟨b,0,none⟩) len len) w'):aI P (Instr.buildSlice t len parts) w K:=by
 subst hk hl
 refine qO hu hie hz hsmall (Nat.mul_pos hl0 hk0) ?_ hK
 rw [hp]
 exact Great.fill_whole hk0 vs _ h1 (by simp [hlen])
theorem aO {t:TypeId} {old:Value} {i:TypeInfo} {z:Value} {l:List Value} (hi:P.info? t=some i) (hz:i.zero=some z) (hl:z.cells=l.toArray)
 (hk : ∀ b w',New w w' b (.cells l.toArray t)→Blk w' b l t→K (.pointer (some ⟨b,0,none⟩)) w'):aI P (Instr.alloc t true old) w K:=
 qCE (fun w=>by simp [Instr.alloc,zeroValue,typeInfo,hi,hz,newVar,newRow,hl]) hk
structure rZ (d:TypeDesc) (w:World) (b:Nat) (es:List MapEntry) (clock:Nat):Prop where
 get:w.heap[b]? = some (.map es.toArray clock)
 st:Stamped es.toArray clock
 key : ∀ x∈es,IsKey d x.key
theorem rZ.lt {d:TypeDesc} {b:Nat} {es:List MapEntry} {clock:Nat} (h:rZ d w b es clock):b<w.heap.size:=bC h.get
theorem rZ.mod {d:TypeDesc} {w':World} {b:Nat} {es:List MapEntry} {clock:Nat} {S:Nat→Prop} (h:rZ d w b es clock) (hm:Mod S w w') (hb : ¬ S b):rZ d w' b es clock:=
 ⟨(hm.block b h.lt hb).trans h.get,h.st,h.key⟩
theorem zY {b:Nat} {o o':Obj} (hb:w.heap[b]? = some o):Upd w {w with heap:=w.heap.setIfInBounds b o'} b o':=
 ⟨(heap_set hb).1,by simp,⟨rfl,rfl,rfl,by simp,fun r _ hn=>(heap_set hb).2 r hn⟩⟩
theorem wN {t:TypeId} {d:TypeDesc} (hk : ∀ b w',b=w.heap.size→w'.heap.size=b+1→rZ d w' b [] 0→Mod NoB w w'→K (.map (some b)) w'):aI P (Instr.makeMap t none) w K:=
 yE (fun w=>by simp [Instr.makeMap]) fun b w' hn=>hk b w' hn.at_ hn.size ⟨hn.get,stamped_empty 0,by simp⟩ hn.mod
theorem sI {d:TypeDesc} {t kt et:TypeId} (hm:P.underlying t=some (.map kt et)) {b:Nat} {es:List MapEntry} {clock:Nat} (hb:rZ d w b es clock)
 (hk : ∀ r w',New w w' r (.mapIter (some b) clock #[] clock)→K (.pointer (some ⟨r,0,none⟩)) w'):aI P (Instr.range t (.map (some b))) w K:=
 qXP (run_range_map w t kt et b es.toArray clock hm hb.get) (hk _ _ (eP w _))
theorem xA {d:TypeDesc} {ty:TypeId} {b r:Nat} {es:List MapEntry} {clock since last:Nat} {seen:Array Nat} (hb:rZ d w b es clock) (hr:w.heap[r]? = some (.mapIter (some b) since seen last))
 (hold : ∀ x∈es,x.born<since) (hsc:since≤last)
 (h0:(∀ x∈es,x.born∈seen)→K (.tuple #[.bool false]) w)
 (h1 : ∀ e w',e∈es→e.born ∉ seen→w'.heap[r]? = some (.mapIter (some b) since (seen.push e.born) clock)→Mod (fun x=>x=r) w w'→w'.heap.size=w.heap.size→K (.tuple #[.bool true,e.key,e.val]) w') :
 aI P (Instr.next (.pointer (some ⟨r,0,none⟩)) false ty) w K:=by
 have hnt:=next_test_false seen es.toArray since last (by simpa using hold) hsc
 have hgr:(getObj r).run P w = .ok (.mapIter (some b) since seen last) w:=by simp [getObj,Sem.run,hr]
 unfold aI Instr.next
 simp only [Sem.run_bind,hgr,Result.andThen_ok,MapKept.run_getObj_map hb.get,hnt,Bool.false_eq_true,↓reduceIte]
 have hmem : ∀ x∈(Array.filter (fun e=>!seen.contains e.born) es.toArray).toList,x.born<since:=fun x hx=>hold x (by simp at hx ⊢; exact hx.1)
 have hin : ∀ x∈(Array.filter (fun e=>!seen.contains e.born) es.toArray).toList,x∈es∧x.born ∉ seen:=fun x hx=>by simpa using hx
 have hempty:(Array.filter (fun e=>!seen.contains e.born) es.toArray).size=0→∀ x∈es,x.born∈seen:=by
  intro h x hx
  have h':=Array.eq_empty_of_size_eq_zero h
  rw [Array.filter_eq_empty_iff] at h'
  simpa using h' x (by simpa using hx)
 generalize Array.filter (fun e=>!seen.contains e.born) es.toArray=L at hmem hin hempty ⊢
 have e1:L.filter (fun x=>decide (x.born<since))=L:=Array.filter_eq_self.2 (fun x hx=>by simpa using hmem x (by simpa using hx))
 have e2:L.filter (fun x=>decide (x.born≥since)) = #[]:=by
  rw [Array.filter_eq_empty_iff]
  intro x hx
  have:=hmem x (by simpa using hx)
  simp
  omega
 simp only [e1,e2,Array.append_empty]
 by_cases hz:L.size=0
 ·have:L = #[]:=Array.eq_empty_of_size_eq_zero hz
  subst this
  exact ⟨_,w,by simp [choose,Sem.run,Question.forced],h0 (hempty hz)⟩
 ·have hne:L.isEmpty=false:=by simp [Array.isEmpty,hz]
  simp only [hne,Bool.false_eq_true,if_false,Array.empty_append,Array.size_map]
  have hch : ∃ (j:Nat) (w1:World),j<L.size∧Mod (fun x=>x=r) w w1∧w1.heap=w.heap∧(choose (Question.mapNext L.size)).run P w = .ok j w1:=by
   by_cases hf:L.size≤1
   ·exact ⟨0,w,by omega,Mod.refl _ _,rfl,by simp [choose,Sem.run,Question.forced,hf]⟩
   ·exact ⟨_,w.drew,Nat.mod_lt _ (by omega),Mod.drew _ _,rfl,by
     simp only [choose,Sem.run,Question.forced,decide_eq_true_eq,hf,if_false,Question.cut]
     rfl⟩
  obtain ⟨j,w1,hj,hal,hh,hrun⟩:=hch
  have hr1:w1.heap[r]? = some (.mapIter (some b) since seen last):=by rw [hh]; exact hr
  have hu:=zY (o':=.mapIter (some b) since (seen.push L[j].born) clock) hr1
  have hm:=hin L[j] (by simp)
  refine ⟨_,_,?_,h1 L[j] _ hm.1 hm.2 hu.get (hal.tr hu.mod) (by rw [hu.size,hh])⟩
  simp only [Sem.run_bind,hrun,Result.andThen_ok,Array.getElem?_map,Array.getElem?_eq_getElem hj,Option.map_some]
  simp [setObj,Sem.run,hr1]
end
theorem aE {b:Bool} {x y:Prop} (h1:b=true→x) (h2:b=false→y):aH b x y:=by cases b <;> simp_all [aH]
theorem cX {P:Program} {f:FuncId} {first cap:Array Value} {args:List Value} {w:World} {pan:List PanicEntry→World→Prop} {K:Value→World→Prop} (he:enters P f=true)
 (h:aD P f (first.toList++args++cap.toList) w pan K):dL P (.func (.func f) first cap) args w pan K:=by
 unfold dL
 simp only [he,cond_true]
 exact h
theorem bM {P:Program} {T:TypeId} {z:Value} {n m:Nat} (h1:(P.info? T).bind (·.zero)=some z) (h2:(P.info? T).map (·.size)=some n) (h3:(P.info? T).map (·.bytes)=some m) :
 ∃ i,P.info? T=some i∧i.zero=some z∧i.size=n∧i.bytes=m:=by
 cases h:P.info? T with
 | none=>simp [h] at h2
 | some i=>exact ⟨i,rfl,by simpa [h] using h1,by simpa [h] using h2,by simpa [h] using h3⟩
theorem aS {n:Nat} (h:n<9223372036854775807):IntKind.i64.wrap ((n:Int)+1)=((n+1:Nat):Int):=by
 rw [wrap_i64 (by omega)]; rfl
end Go.Sh
end
