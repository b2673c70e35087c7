/- Budget: the code's budget and the document's side by side. -/
import Derived.Test.YtnecbkjpijiopaaB9
import Derived.Test.YtnecbkjpijiopaaB7
set_option linter.unusedSimpArgs false
set_option linter.unusedVariables false
namespace Go.Proofs.Ytnecbkjpijiopaa
open Go Go.Sh

structure TwoC (D : Option (Nat × List Value)) (w0 w : World) (a r : Nat) (st : BSt) (op : List (Int × Int)) (bd : List Int) (sess most : Int) (Sa Sr : Nat → Prop) : Prop where
  ha : BH w a Sa st
  hr : RH w r Sr op bd sess most
  dis : ∀ x, Sa x → ¬ Sr x
  la : ∀ x, Sa x → w0.heap.size ≤ x
  lr : ∀ x, Sr x → w0.heap.size ≤ x
  mod : Mod NoB w0 w
  hd : ∀ d dl, D = some (d, dl) → Blk w d dl 29 ∧ ¬ Sa d ∧ ¬ Sr d
def Two (D : Option (Nat × List Value)) (w0 w : World) (a r : Nat) (st : BSt) (op : List (Int × Int)) (bd : List Int) (sess most : Int) : Prop := ∃ Sa Sr, TwoC D w0 w a r st op bd sess most Sa Sr
section
variable {D : Option (Nat × List Value)} {w0 w w' : World} {a r : Nat} {st st' : BSt} {op op' : List (Int × Int)} {bd bd' : List Int} {sess most : Int} {Sa Sr : Nat → Prop}
theorem RH.low (h : RH w r Sr op bd sess most) : ∀ x, Sr x → x < w.heap.size := by
  obtain ⟨s1, s2, h⟩ := h; exact h.low
theorem TwoC.postA (h : TwoC D w0 w a r st op bd sess most Sa Sr) (hp : Post Sa w w' a st') : Two D w0 w' a r st' op bd sess most := by
  obtain ⟨S', hB, h1, h2⟩ := hp
  refine ⟨S', Sr, hB, h.hr.mod h2 fun x hx hx' => h.dis x hx' hx, fun x hx hx' => ?_, fun x hx => (h1 x hx).elim (h.la x) fun e => Nat.le_trans h.mod.size e, h.lr, h.mod.fresh h2 h.la, fun d dl e => ?_⟩
  · have := h.hr.low x hx'
    rcases h1 x hx with e | e
    · exact h.dis x e hx'
    · omega
  · obtain ⟨g1, g2, g3⟩ := h.hd d dl e
    exact ⟨g1.mod h2 g2, fun e => (h1 d e).elim g2 fun e => by have := g1.lt; omega, g3⟩
theorem TwoC.postR (h : TwoC D w0 w a r st op bd sess most Sa Sr) (hp : RPost Sr w w' r op' bd' sess most) : Two D w0 w' a r st op' bd' sess most := by
  obtain ⟨S', hB, h1, h2⟩ := hp
  refine ⟨Sa, S', h.ha.mod h2 fun x hx hx' => h.dis x hx hx', hB, fun x hx hx' => ?_, h.la, fun x hx => (h1 x hx).elim (h.lr x) fun e => Nat.le_trans h.mod.size e, h.mod.fresh h2 h.lr, fun d dl e => ?_⟩
  · have := h.ha.low x hx
    rcases h1 x hx' with e | e
    · exact h.dis x hx e
    · omega
  · obtain ⟨g1, g2, g3⟩ := h.hd d dl e
    exact ⟨g1.mod h2 g3, g2, fun e => (h1 d e).elim g3 fun e => by have := g1.lt; omega⟩
theorem Two.mod (h : Two D w0 w a r st op bd sess most) (hm : Mod NoB w w') : Two D w0 w' a r st op bd sess most := by
  obtain ⟨Sa, Sr, h⟩ := h
  exact ⟨Sa, Sr, h.ha.mod hm fun _ _ h => h, h.hr.mod hm fun _ _ h => h, h.dis, h.la, h.lr, h.mod.no hm, fun d dl e => ⟨(h.hd d dl e).1.mod hm fun h => h, (h.hd d dl e).2⟩⟩
theorem Two.forget (h : Two D w0 w a r st op bd sess most) : Two none w0 w a r st op bd sess most := by
  obtain ⟨Sa, Sr, h⟩ := h
  exact ⟨Sa, Sr, h.ha, h.hr, h.dis, h.la, h.lr, h.mod, by simp⟩
theorem Two.m (h : Two D w0 w a r st op bd sess most) : Mod NoB w0 w := by
  obtain ⟨Sa, Sr, h⟩ := h; exact h.mod
theorem Two.d {d : Nat} {dl : List Value} (h : Two (some (d, dl)) w0 w a r st op bd sess most) : Blk w d dl 29 := by
  obtain ⟨Sa, Sr, h⟩ := h; exact (h.hd d dl rfl).1
/-- a variable is laid beside them -/
theorem Two.lay {d : Nat} {dl : List Value} {w1 w2 : World} (h : Two none w0 w a r st op bd sess most) {o : Obj} (hN : New w w1 d o) (hm : Mod (fun x => x = d) w1 w2) (hb : Blk w2 d dl 29) : Two (some (d, dl)) w0 w2 a r st op bd sess most := by
  obtain ⟨Sa, Sr, h⟩ := h
  have hat := hN.at_
  have hm' : Mod NoB w w2 := hN.mod.fresh hm fun x e => by omega
  refine ⟨Sa, Sr, h.ha.mod hm' fun _ _ h => h, h.hr.mod hm' fun _ _ h => h, h.dis, h.la, h.lr, h.mod.no hm', fun d' dl' e => ?_⟩
  cases e
  exact ⟨hb, fun e => by have := h.ha.low _ e; omega, fun e => by have := h.hr.low _ e; omega⟩
theorem ret_mono {k : FuncId} {args : Array Value} {Q Q' : Value → World → Prop} (h : Calls Try.prog k args w (Ret Q)) (hq : ∀ v w', Q v w' → Q' v w') : Calls Try.prog k args w (Ret Q') :=
  h.mono fun e w' he => by
    cases e with
    | returned v => exact hq v w' he
    | panicked c => exact he
    | outgrown => exact he

variable {peer n : Int}
theorem t11 (h : Two D w0 w a r st op bd sess most) (hn : (st.acc peer).1.length ≤ 1000000) :
    Calls Try.prog 11 #[.pointer (some ⟨a, 0, none⟩), .int .i64 peer, .int .i64 n] w (Ret fun v w' => v = .tuple #[] ∧ Two D w0 w' a r (st.put peer ((st.acc peer).1.erase n, (st.acc peer).2)) op bd sess most) := by
  obtain ⟨Sa, Sr, h⟩ := h
  exact ret_mono (c11 h.ha hn) fun v w' hq => ⟨hq.1, h.postA hq.2⟩
theorem t13 (h : Two D w0 w a r st op bd sess most) (hn : -1000000 ≤ (st.acc peer).2 ∧ (st.acc peer).2 ≤ 1000000) :
    Calls Try.prog 13 #[.pointer (some ⟨a, 0, none⟩), .int .i64 peer] w (Ret fun v w' => v = .tuple #[] ∧ Two D w0 w' a r (st.put peer ((st.acc peer).1, (st.acc peer).2 + 1)) op bd sess most) := by
  obtain ⟨Sa, Sr, h⟩ := h
  exact ret_mono (c13 h.ha hn) fun v w' hq => ⟨hq.1, h.postA hq.2⟩
theorem t15 (h : Two D w0 w a r st op bd sess most) : Calls Try.prog 15 #[.pointer (some ⟨a, 0, none⟩)] w (Ret fun v w' => v = .tuple #[] ∧ Two D w0 w' a r st.tick op bd sess most) := by
  obtain ⟨Sa, Sr, h⟩ := h
  exact ret_mono (c15 h.ha) fun v w' hq => ⟨hq.1, h.postA hq.2⟩
theorem t17 (h : Two D w0 w a r st op bd sess most) (hn : (st.acc peer).1.length ≤ 1000000) :
    Calls Try.prog 17 #[.pointer (some ⟨a, 0, none⟩), .int .i64 peer, .int .i64 n] w (Ret fun v w' => v = .tuple #[.int .i64 (openTells (st.acc peer).1 n st.most).1, .bool (openTells (st.acc peer).1 n st.most).2.1, .int .i64 (openTells (st.acc peer).1 n st.most).2.2] ∧
      Two D w0 w' a r (st.put peer (openLeaves (st.acc peer).1 n st.most, (st.acc peer).2)) op bd sess most) := by
  obtain ⟨Sa, Sr, h⟩ := h
  exact ret_mono (c17 h.ha hn) fun v w' hq => ⟨hq.1, h.postA hq.2⟩
theorem t19 (h : Two D w0 w a r st op bd sess most) (hn : (st.acc peer).1.length ≤ 1000000) :
    Calls Try.prog 19 #[.pointer (some ⟨a, 0, none⟩), .int .i64 peer, .int .i64 n] w (Ret fun v w' => v = .bool (decide (n ∈ (st.acc peer).1)) ∧ Two D w0 w' a r st op bd sess most) := by
  obtain ⟨Sa, Sr, h⟩ := h
  exact ret_mono (c19 h.ha hn) fun v w' hq => ⟨hq.1, h.postA hq.2⟩
theorem t21 (h : Two D w0 w a r st op bd sess most) :
    Calls Try.prog 21 #[.pointer (some ⟨a, 0, none⟩), .int .i64 peer] w (Ret fun v w' => v = .bool (decide ((st.acc peer).2 < st.worst)) ∧ Two D w0 w' a r st op bd sess most) := by
  obtain ⟨Sa, Sr, h⟩ := h
  exact ret_mono (c21 h.ha) fun v w' hq => ⟨hq.1, h.postA hq.2⟩
theorem t12 (h : Two D w0 w a r st op bd sess most) (hn : op.length ≤ 900000) :
    Calls Try.prog 12 #[.pointer (some ⟨r, 0, none⟩), .int .i64 peer, .int .i64 n] w (Ret fun v w' => v = .tuple #[] ∧ Two D w0 w' a r st (op.filter fun p => decide (p ≠ (peer, n))) bd sess most) := by
  obtain ⟨Sa, Sr, h⟩ := h
  exact ret_mono (c12r h.hr (by omega)) fun v w' hq => ⟨hq.1, h.postR hq.2⟩
theorem t14 (h : Two D w0 w a r st op bd sess most) (hn : bd.length ≤ 900000) :
    Calls Try.prog 14 #[.pointer (some ⟨r, 0, none⟩), .int .i64 peer] w (Ret fun v w' => v = .tuple #[] ∧ Two D w0 w' a r st op (bd ++ [peer]) sess most) := by
  obtain ⟨Sa, Sr, h⟩ := h
  exact ret_mono (c14r h.hr (by omega)) fun v w' hq => ⟨hq.1, h.postR hq.2⟩
theorem t16 (h : Two D w0 w a r st op bd sess most) : Calls Try.prog 16 #[.pointer (some ⟨r, 0, none⟩)] w (Ret fun v w' => v = .tuple #[] ∧ Two D w0 w' a r st op [] sess most) := by
  obtain ⟨Sa, Sr, h⟩ := h
  exact ret_mono (c16r h.hr) fun v w' hq => ⟨hq.1, h.postR hq.2⟩
theorem t18 (h : Two D w0 w a r st op bd sess most) (hn : op.length ≤ 900000) :
    Calls Try.prog 18 #[.pointer (some ⟨r, 0, none⟩), .int .i64 peer, .int .i64 n] w (Ret fun v w' => v = .tuple #[.int .i64 (refOpen op peer n sess).2.1, .bool (refOpen op peer n sess).2.2.1, .int .i64 (refOpen op peer n sess).2.2.2] ∧
      Two D w0 w' a r st (refOpen op peer n sess).1 bd sess most) := by
  obtain ⟨Sa, Sr, h⟩ := h
  exact ret_mono (c18r h.hr hn) fun v w' hq => ⟨hq.1, h.postR hq.2⟩
theorem t20 (h : Two D w0 w a r st op bd sess most) (hn : op.length ≤ 900000) :
    Calls Try.prog 20 #[.pointer (some ⟨r, 0, none⟩), .int .i64 peer, .int .i64 n] w (Ret fun v w' => v = .bool (decide ((peer, n) ∈ op)) ∧ Two D w0 w' a r st op bd sess most) := by
  obtain ⟨Sa, Sr, h⟩ := h
  exact ret_mono (c20r h.hr (by omega)) fun v w' hq => ⟨hq.1, hq.2 ▸ ⟨Sa, Sr, h⟩⟩
theorem t22 (h : Two D w0 w a r st op bd sess most) (hn : bd.length ≤ 900000) :
    Calls Try.prog 22 #[.pointer (some ⟨r, 0, none⟩), .int .i64 peer] w (Ret fun v w' => v = .bool (decide ((bd.count peer : Int) < most)) ∧ Two D w0 w' a r st op bd sess most) := by
  obtain ⟨Sa, Sr, h⟩ := h
  exact ret_mono (c22r h.hr (by omega)) fun v w' hq => ⟨hq.1, hq.2 ▸ ⟨Sa, Sr, h⟩⟩
end

/-! ## the plain law: they tell the same -/
structure Rel (st : BSt) (op : List (Int × Int)) (bd : List Int) (sess most : Int) : Prop where
  ac : ∀ q, st.acc q = ((ofPeer q op).map (·.2), (bd.count q : Int))
  nd : op.Nodup
  m : st.most = sess
  k : st.worst = most
theorem mem_ofPeer {q : Int} {op : List (Int × Int)} {p : Int × Int} : p ∈ ofPeer q op ↔ p ∈ op ∧ p.1 = q := by simp [ofPeer]
theorem Rel.has {st : BSt} {op : List (Int × Int)} {bd : List Int} {sess most : Int} (h : Rel st op bd sess most) (q n : Int) : n ∈ (st.acc q).1 ↔ (q, n) ∈ op := by
  rw [h.ac]
  simp only [List.mem_map, mem_ofPeer]
  constructor
  · rintro ⟨⟨x, y⟩, ⟨h1, h2⟩, h3⟩
    simp at h2 h3; subst h2 h3; exact h1
  · exact fun h1 => ⟨(q, n), ⟨h1, rfl⟩, rfl⟩
theorem Rel.len {st : BSt} {op : List (Int × Int)} {bd : List Int} {sess most : Int} (h : Rel st op bd sess most) (q : Int) : (st.acc q).1.length ≤ op.length := by
  rw [h.ac]; simpa [ofPeer] using List.length_filter_le _ op
theorem nodup_snd {q : Int} {op : List (Int × Int)} (h : op.Nodup) : ((ofPeer q op).map (·.2)).Nodup := by
  unfold List.Nodup
  rw [List.pairwise_map]
  have h1 : (ofPeer q op).Nodup := h.filter _
  have hm : ∀ p ∈ ofPeer q op, p.1 = q := fun p hp => (mem_ofPeer.1 hp).2
  generalize ofPeer q op = l at h1 hm
  induction l with
  | nil => exact .nil
  | cons x l ih =>
    have h1' := List.nodup_cons.1 h1
    refine .cons (fun y hy e => h1'.1 ?_) (ih h1'.2 fun p hp => hm p (.tail _ hp))
    have : x = y := Prod.ext ((hm x (.head _)).trans (hm y (.tail _ hy)).symm) e
    rw [this]; exact hy
theorem ofPeer_app {q : Int} {l l' : List (Int × Int)} : ofPeer q (l ++ l') = ofPeer q l ++ ofPeer q l' := by simp [ofPeer]
theorem ofPeer_del {q peer n : Int} {op : List (Int × Int)} : ofPeer q (op.filter fun p => decide (p ≠ (peer, n))) = if q = peer then (ofPeer q op).filter (fun p => decide (p.2 ≠ n)) else ofPeer q op := by
  unfold ofPeer
  rw [List.filter_filter]
  split
  · next hq =>
    subst hq
    rw [List.filter_filter]
    apply List.filter_congr
    intro p _
    by_cases h1 : p.1 = q <;> by_cases h2 : p.2 = n <;> simp [h1, h2, Prod.ext_iff]
  · next hq =>
    apply List.filter_congr
    intro p _
    by_cases h1 : p.1 = q
    · have : p ≠ (peer, n) := by rintro rfl; exact hq h1.symm
      simp [h1, this]
    · simp [h1]
theorem filter_map_snd {n : Int} (l : List (Int × Int)) : (l.filter fun p => decide (p.2 ≠ n)).map (·.2) = (l.map (·.2)).filter fun x => decide (x ≠ n) := by
  induction l with
  | nil => rfl
  | cons a l ih => by_cases h : a.2 = n <;> simp [h] at ih ⊢ <;> exact ih
theorem erase_snd {q n : Int} {op : List (Int × Int)} (h : op.Nodup) : ((ofPeer q op).map (·.2)).erase n = ((ofPeer q op).filter fun p => decide (p.2 ≠ n)).map (·.2) := by
  rw [(nodup_snd h).erase_eq_filter, filter_map_snd]
  apply List.filter_congr
  intro x _
  simp only [bne, ne_eq, decide_not]
  congr 1
theorem Rel.close {st : BSt} {op : List (Int × Int)} {bd : List Int} {sess most : Int} (h : Rel st op bd sess most) (peer n : Int) :
    Rel (st.put peer ((st.acc peer).1.erase n, (st.acc peer).2)) (op.filter fun p => decide (p ≠ (peer, n))) bd sess most := by
  refine ⟨fun q => ?_, h.nd.filter _, h.m, h.k⟩
  unfold BSt.put
  rw [ofPeer_del]
  dsimp only
  by_cases hq : q = peer
  · subst hq
    rw [if_pos rfl, if_pos rfl, h.ac, erase_snd h.nd]
  · rw [if_neg hq, if_neg hq, h.ac]
theorem Rel.bad {st : BSt} {op : List (Int × Int)} {bd : List Int} {sess most : Int} (h : Rel st op bd sess most) (peer : Int) : Rel (st.put peer ((st.acc peer).1, (st.acc peer).2 + 1)) op (bd ++ [peer]) sess most := by
  refine ⟨fun q => ?_, h.nd, h.m, h.k⟩
  unfold BSt.put
  dsimp only
  by_cases hq : q = peer
  · subst hq
    rw [if_pos rfl, h.ac]; simp
  · rw [if_neg hq, h.ac]; simp [List.count_append, Ne.symm hq]
theorem Rel.tick {st : BSt} {op : List (Int × Int)} {bd : List Int} {sess most : Int} (h : Rel st op bd sess most) : Rel st.tick op [] sess most :=
  ⟨fun q => by unfold BSt.tick; dsimp only; rw [h.ac]; simp, h.nd, h.m, h.k⟩
theorem Rel.opn {st : BSt} {op : List (Int × Int)} {bd : List Int} {sess most : Int} (h : Rel st op bd sess most) (peer n : Int) :
    openTells (st.acc peer).1 n st.most = (refOpen op peer n sess).2 ∧ Rel (st.put peer (openLeaves (st.acc peer).1 n st.most, (st.acc peer).2)) (refOpen op peer n sess).1 bd sess most := by
  unfold openTells openLeaves refOpen
  by_cases hin : (peer, n) ∈ op
  · have hin' := (h.has peer n).2 hin
    simp only [if_pos hin, if_pos hin']
    refine ⟨trivial, ?_⟩
    rw [show ((st.acc peer).1, (st.acc peer).2) = st.acc peer from rfl, put_self]
    exact h
  · have hin' : n ∉ (st.acc peer).1 := fun e => hin ((h.has peer n).1 e)
    simp only [if_neg hin, if_neg hin']
    have hx : (st.acc peer).1 ++ [n] = (ofPeer peer (op ++ [(peer, n)])).map (·.2) := by
      rw [h.ac, ofPeer_app]; simp [ofPeer]
    have hl : (st.acc peer).1.length + 1 = (ofPeer peer (op ++ [(peer, n)])).length := by
      have := congrArg List.length hx
      simpa using this
    have hnd : (op ++ [(peer, n)]).Nodup := by
      rw [List.nodup_append]
      refine ⟨h.nd, by simp, fun x hx y hy e => ?_⟩
      simp at hy; subst hy; subst e; exact hin hx
    unfold opened
    rw [hl, h.m, hx]
    by_cases hs : ((ofPeer peer (op ++ [(peer, n)])).length : Int) ≤ sess
    · simp only [if_pos hs]
      refine ⟨trivial, fun q => ?_, hnd, h.m, h.k⟩
      unfold BSt.put
      dsimp only
      by_cases hq : q = peer
      · subst hq; rw [if_pos rfl, h.ac]
      · rw [if_neg hq, h.ac, ofPeer_app]
        simp [ofPeer, Ne.symm hq]
    · simp only [if_neg hs]
      have hne : ofPeer peer (op ++ [(peer, n)]) ≠ [] := by
        intro e; rw [e] at hl; simp at hl
      obtain ⟨g, rest, hg⟩ : ∃ g rest, ofPeer peer (op ++ [(peer, n)]) = g :: rest := by
        cases hc : ofPeer peer (op ++ [(peer, n)]) with
        | nil => exact absurd hc hne
        | cons g rest => exact ⟨g, rest, rfl⟩
      refine ⟨by rw [hg]; rfl, fun q => ?_, hnd.filter _, h.m, h.k⟩
      unfold BSt.put
      rw [ofPeer_del]
      dsimp only
      by_cases hq : q = peer
      · subst hq
        rw [if_pos rfl, if_pos rfl, ← erase_snd hnd, hg, h.ac]
        simp
      · rw [if_neg hq, if_neg hq, h.ac, ofPeer_app]
        simp [ofPeer, Ne.symm hq]
theorem Rel.lens {st : BSt} {op : List (Int × Int)} {bd : List Int} {sess most : Int} (_h : Rel st op bd sess most) (peer n : Int) : (refOpen op peer n sess).1.length ≤ op.length + 1 := by
  unfold refOpen
  split
  · simp
  · split
    · simp
    · refine Nat.le_trans (List.length_filter_le _ _) (by simp)
end Go.Proofs.Ytnecbkjpijiopaa
