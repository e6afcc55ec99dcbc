/- Layer 13: a region that begins or ends in a communication, for one goroutine. -/
import Derived.Test.YtbglagllgppggaaLeaf
import Derived.Conc.LoneSelect
set_option linter.unusedVariables false
set_option linter.unusedSimpArgs false
namespace Go.Proofs.Ytbglagllgppggaa.Comm
open Go Go.Conc

/-- The operations of a region that are left, by the machine's own steps. -/
def OpsTo (P : Program) (ops : Array Oper) (Q : Exit → Act → World → Prop) (l : List Nat) (a : Act) (w : World) : Prop :=
  ∀ (b : Frame) (k : List Item) (cs : List Frame), ∃ e a' w', Q e a' w' ∧ Arrives P (lone (b.at a (.inRegion ops l :: k)) cs w) b k cs e a' w'
section
variable {P : Program} {ops : Array Oper} {Q : Exit → Act → World → Prop} {a : Act} {w w' : World} {i : Nat} {rest : List Nat} {o : Oper}
theorem OpsTo.of_wp (h : wpOps P ops Q rest a w) : OpsTo P ops Q rest a w := fun b k cs => wp_ops rest a w h b k cs
theorem OpsTo.value {v : Value} (ho : ops[i]? = some o) (hw : Region.wanted o (yielded ops a.tmps) = true) (hr : (execOp a.eval o).run P w = .ok (.value v) w') (h : OpsTo P ops Q rest (a.put o.dst v) w') : OpsTo P ops Q (i :: rest) a w := by
  intro b k cs
  obtain ⟨e, a', w'', hq, harr⟩ := h b k cs
  have hg := stepG_op (P := P) (b := b) (k := k) (cs := cs) (w := w) (rest := rest) ho hw
  have hfin : (b.at a (.inRegion ops (i :: rest) :: k)).finish v = b.at (a.put o.dst v) (.inRegion ops rest :: k) := by
    rw [Frame.finish_at, ho]; rfl
  refine ⟨e, a', w'', hq, .of_steps (.one (step_lone_go ?_)) harr⟩
  rw [hg, ← hfin]; simp [stepG.apply, hr]
theorem stepG_comm' {b : Frame} {k : List Item} {cs : List Frame} {cases : Array CommCase} {blocking : Bool} {shape : CommShape} (ho : ops[i]? = some o) (hw : Region.wanted o (yielded ops a.tmps) = true)
    (hr : (execOp a.eval o).run P w = .ok (.comm cases blocking shape) w') :
    ∃ es, stepG P true (G (b.at a (.inRegion ops (i :: rest) :: k)) cs) w = .comm (G (b.at a (.inRegion ops (i :: rest) :: k)) cs) cases blocking shape w' es := by
  have hg := stepG_op (P := P) (b := b) (k := k) (cs := cs) (w := w) (rest := rest) ho hw
  simp only [stepG.apply, Sem.runT_eq, hr, GStep.after] at hg
  exact ⟨_, hg⟩
/-- A send, offered with a default, into a buffer with room. -/
theorem OpsTo.room {c cap s r : Nat} {buf : Array Value} {v z : Value} {tm : Bool} (ho : ops[i]? = some o) (hw : Region.wanted o (yielded ops a.tmps) = true)
    (hr : (execOp a.eval o).run P w = .ok (.comm #[scase c v z] false .select) w) (hc : w.heap[c]? = some (.chan cap buf false s r tm)) (hroom : buf.size < cap)
    (h : OpsTo P ops Q rest (a.put o.dst (.tuple #[goInt 0, .bool false])) (w.setChan c cap (buf.push v) false (s + 1) r tm)) : OpsTo P ops Q (i :: rest) a w := by
  intro b k cs
  obtain ⟨e, a', w'', hq, harr⟩ := h b k cs
  obtain ⟨es, hg⟩ := stepG_comm' (b := b) (k := k) (cs := cs) (rest := rest) ho hw hr
  have hs := step_lone_select_send_room hg hc hroom
  have hfin : (b.at a (.inRegion ops (i :: rest) :: k)).finish (.tuple #[goInt 0, .bool false]) = b.at (a.put o.dst (.tuple #[goInt 0, .bool false])) (.inRegion ops rest :: k) := by
    rw [Frame.finish_at, ho]; rfl
  rw [hfin] at hs
  exact ⟨e, a', w'', hq, .of_steps (.one hs) harr⟩
/-- .. into a buffer that is full: the default. -/
theorem OpsTo.full {c cap s r : Nat} {buf : Array Value} {v z : Value} {tm : Bool} (ho : ops[i]? = some o) (hw : Region.wanted o (yielded ops a.tmps) = true)
    (hr : (execOp a.eval o).run P w = .ok (.comm #[scase c v z] false .select) w) (hc : w.heap[c]? = some (.chan cap buf false s r tm)) (hfull : cap ≤ buf.size)
    (h : OpsTo P ops Q rest (a.put o.dst (.tuple #[goInt (-1), .bool false])) w) : OpsTo P ops Q (i :: rest) a w := by
  intro b k cs
  obtain ⟨e, a', w'', hq, harr⟩ := h b k cs
  obtain ⟨es, hg⟩ := stepG_comm' (b := b) (k := k) (cs := cs) (rest := rest) ho hw hr
  have hs := step_lone_select_send_full hg hc hfull
  have hfin : (b.at a (.inRegion ops (i :: rest) :: k)).finish (.tuple #[goInt (-1), .bool false]) = b.at (a.put o.dst (.tuple #[goInt (-1), .bool false])) (.inRegion ops rest :: k) := by
    rw [Frame.finish_at, ho]; rfl
  rw [hfin] at hs
  exact ⟨e, a', w'', hq, .of_steps (.one hs) harr⟩
/-- A plain receive from a buffer that holds something. -/
theorem OpsTo.recv {c cap s r : Nat} {buf : Array Value} {z : Value} {tm closed : Bool} (ho : ops[i]? = some o) (hw : Region.wanted o (yielded ops a.tmps) = true)
    (hr : (execOp a.eval o).run P w = .ok (.comm #[rcase c z] true (.recv false)) w) (hc : w.heap[c]? = some (.chan cap buf closed s r tm)) (hsome : 0 < buf.size)
    (h : OpsTo P ops Q rest (a.put o.dst (buf.getD 0 undef)) (w.setChan c cap (buf.extract 1 buf.size) closed s (r + 1) tm)) : OpsTo P ops Q (i :: rest) a w := by
  intro b k cs
  obtain ⟨e, a', w'', hq, harr⟩ := h b k cs
  obtain ⟨es, hg⟩ := stepG_comm' (b := b) (k := k) (cs := cs) (rest := rest) ho hw hr
  have hs := step_lone_recv_buf false hg hc hsome
  have hfin : (b.at a (.inRegion ops (i :: rest) :: k)).finish (got false (buf.getD 0 undef) true) = b.at (a.put o.dst (buf.getD 0 undef)) (.inRegion ops rest :: k) := by
    rw [Frame.finish_at, ho]; rfl
  rw [hfin] at hs
  exact ⟨e, a', w'', hq, .of_steps (.one hs) harr⟩
theorem OpsTo.tail2 {o0 o1 o2 : Oper} (h : wpList P #[o0, o1, o2] Q [o1, o2] a w) : OpsTo P #[o0, o1, o2] Q [1, 2] a w := by
  refine OpsTo.of_wp ?_
  have e := wpOps_eq_wpList (P := P) (ops := #[o0, o1, o2]) (Q := Q) [o1, o2] 1 (fun j => by
    match j with
    | 0 => rfl
    | 1 => rfl
    | j + 2 => simp [Nat.add_comm 1])
  rw [show ([1, 2] : List Nat) = List.range' 1 [o1, o2].length from rfl, e]
  exact h
theorem OpsTo.wp {id : Nat} (h : OpsTo P ops Q (List.range ops.size) a w) : (Code.region id ops false).wp P Q a w :=
  fun b k cs => let ⟨e, a', w', q, r⟩ := h b k cs; ⟨e, a', w', q, .of_steps (.one step_region) r⟩
/-- A region of a select (one send, a default) and two operations more: there is room. -/
theorem region_room {id : Nat} {o0 o1 o2 : Oper} {c cap s r : Nat} {buf : Array Value} {v z : Value} {tm : Bool} (hw : Region.wanted o0 (yielded #[o0, o1, o2] a.tmps) = true)
    (hr : (execOp a.eval o0).run P w = .ok (.comm #[scase c v z] false .select) w) (hc : w.heap[c]? = some (.chan cap buf false s r tm)) (hroom : buf.size < cap)
    (h : wpList P #[o0, o1, o2] Q [o1, o2] (a.put o0.dst (.tuple #[goInt 0, .bool false])) (w.setChan c cap (buf.push v) false (s + 1) r tm)) : (Code.region id #[o0, o1, o2] false).wp P Q a w :=
  OpsTo.wp (OpsTo.room (i := 0) (rest := [1, 2]) rfl hw hr hc hroom (OpsTo.tail2 h))
/-- .. there is none. -/
theorem region_full {id : Nat} {o0 o1 o2 : Oper} {c cap s r : Nat} {buf : Array Value} {v z : Value} {tm : Bool} (hw : Region.wanted o0 (yielded #[o0, o1, o2] a.tmps) = true)
    (hr : (execOp a.eval o0).run P w = .ok (.comm #[scase c v z] false .select) w) (hc : w.heap[c]? = some (.chan cap buf false s r tm)) (hfull : cap ≤ buf.size)
    (h : wpList P #[o0, o1, o2] Q [o1, o2] (a.put o0.dst (.tuple #[goInt (-1), .bool false])) w) : (Code.region id #[o0, o1, o2] false).wp P Q a w :=
  OpsTo.wp (OpsTo.full (i := 0) (rest := [1, 2]) rfl hw hr hc hfull (OpsTo.tail2 h))
/-- A region of four plain operations and a receive. -/
theorem region_recv {id : Nat} {o0 o1 o2 o3 o4 : Oper} {c cap s r : Nat} {buf : Array Value} {v0 v1 v2 v3 z : Value} {tm closed : Bool}
    (g0 : o0.guard = none) (g1 : o1.guard = none) (g2 : o2.guard = none) (g3 : o3.guard = none) (g4 : o4.guard = none)
    (h0 : (execOp a.eval o0).run P w = .ok (.value v0) w) (h1 : (execOp (a.put o0.dst v0).eval o1).run P w = .ok (.value v1) w) (h2 : (execOp ((a.put o0.dst v0).put o1.dst v1).eval o2).run P w = .ok (.value v2) w)
    (h3 : (execOp (((a.put o0.dst v0).put o1.dst v1).put o2.dst v2).eval o3).run P w = .ok (.value v3) w)
    (hr : (execOp ((((a.put o0.dst v0).put o1.dst v1).put o2.dst v2).put o3.dst v3).eval o4).run P w = .ok (.comm #[rcase c z] true (.recv false)) w) (hc : w.heap[c]? = some (.chan cap buf closed s r tm)) (hsome : 0 < buf.size)
    (h : Q .normal (((((a.put o0.dst v0).put o1.dst v1).put o2.dst v2).put o3.dst v3).put o4.dst (buf.getD 0 undef)) (w.setChan c cap (buf.extract 1 buf.size) closed s (r + 1) tm)) : (Code.region id #[o0, o1, o2, o3, o4] false).wp P Q a w := by
  refine OpsTo.wp (OpsTo.value (i := 0) (rest := [1, 2, 3, 4]) rfl (by simp [Region.wanted, g0]) h0 (OpsTo.value (i := 1) rfl (by simp [Region.wanted, g1]) h1 (OpsTo.value (i := 2) rfl (by simp [Region.wanted, g2]) h2 (OpsTo.value (i := 3) rfl (by simp [Region.wanted, g3]) h3 (OpsTo.recv (i := 4) rfl (by simp [Region.wanted, g4]) hr hc hsome (OpsTo.of_wp h))))))
end
end Go.Proofs.Ytbglagllgppggaa.Comm
