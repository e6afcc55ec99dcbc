/- Layer 14: an inbox's map, as a function of the number; its laws. -/
import Derived.Test.YtlpopnacfggiiaaPInboxKnownx1
import Derived.WalkKit
import Derived.WalkSpells
import Derived.OpenShut
import Derived.Deep.RegionHeld3
import Derived.Maps.OwnSet
import Derived.Maps.Views
set_option linter.unusedVariables false
set_option linter.unusedSimpArgs false
namespace Go.Proofs.Ytlpopnacfggiiaa.Base
open Go.RowKit Go.Proofs.YtlpopnacfggiiaaW.PrintWords Go.Proofs.YtlpopnacfggiiaaW.PrintLast Go.Proofs.YtlpopnacfggiiaaW.PrintMore
open Go.Maps (int_keyed keyOf_int_mk Keyed)

structure Bx (p : Prop) : Prop where mk :: (out : p)
structure Only (g : Nat) (w w' : World) : Prop where
  os : w'.os = w.os
  tape : w'.tape = w.tape
  output : w'.output = w.output
  size : w.heap.size ≤ w'.heap.size
  block : ∀ k, k < w.heap.size → k ≠ g → w'.heap[k]? = w.heap[k]?

/-- How an element of the map reads: it is what it is. -/
def MK (v : Value) : Option (DataW Value × List MemPlace) := some (.held v, [])
/-- Block b is a map from numbers, of n entries, that holds f. -/
def MapIs (w : World) (b n : Nat) (f : Int → Option Value) : Prop :=
  ∃ D : DataW Value, w.ownsMap Try.prog 50 MK b n D ∧ Maps.size D = n ∧
    ∀ k, 0 ≤ k → k ≤ 65535 → (∀ z, D.atKey (.int .u16 k) z = ((f k).map DataW.held).getD z) ∧ Maps.has D (.int .u16 k) = (f k).isSome
theorem key_wf {k : Int} (h0 : 0 ≤ k) (h1 : k ≤ 65535) : (Lit.int .u16 k).wf = true := by
  simp only [Lit.wf]
  have e0 : IntKind.u16.min = 0 := by decide
  have e1 : IntKind.u16.max = 65535 := by decide
  rw [e0, e1]
  simp [h0, h1]
theorem keyIs {k : Int} (h0 : 0 ≤ k) (h1 : k ≤ 65535) : keyOf Try.prog 50 (.int .u16 k) = some (.int .u16 k) := keyOf_int_mk Try.underlying50 (key_wf h0 h1)
theorem kd50 : Keyed Try.prog 50 := int_keyed Try.underlying50
theorem own_exact {w : World} {P : Program} {k : TypeId} {R : Value → Option (DataW Value × List MemPlace)} {b n : Nat} {D : DataW Value} (h : w.ownsMap P k R b n D) : w.ownsMap P k R b (Maps.size D) D := by
  obtain ⟨es, clock, hb, F, hs, rfl⟩ := h
  exact ⟨es, clock, hb, F, by simp [Maps.size, length_sorted], rfl⟩
theorem MapIs.made (w : World) : MapIs (w.alloc (.map #[] 0)) w.heap.size 0 (fun _ => none) :=
  ⟨.map [], World.ownsMap_made _ _ _ _, rfl, fun k _ _ => ⟨fun z => rfl, rfl⟩⟩
theorem MapIs.look {w : World} {b n : Nat} {f : Int → Option Value} (h : MapIs w b n f) {t e : TypeId} {z : Value} (ht : Try.prog.underlying t = some (.map 50 e)) (hz : ∀ w : World, (zeroValue e).run Try.prog w = .ok z w) {k : Int} (h0 : 0 ≤ k) (h1 : k ≤ 65535) :
    (Instr.lookup t (.map (some b)) (.int .u16 k) true).run Try.prog w = .ok (.tuple #[(f k).getD z, .bool (f k).isSome]) w := by
  obtain ⟨D, ho, _, hf⟩ := h
  obtain ⟨v, ps, hr, hv⟩ := ho.look_ok kd50 ht (hz w) (zd := .held z) (zp := []) rfl (keyIs h0 h1)
  obtain ⟨hk, hh⟩ := hf k h0 h1
  rw [hh] at hr
  have : DataW.held v = ((f k).map DataW.held).getD (.held z) := by
    rw [← hk]
    unfold MK at hv
    injection hv with hv
    exact congrArg Prod.fst hv
  have e : v = (f k).getD z := by
    cases hfk : f k with
    | none => rw [hfk] at this; simpa using this
    | some u => rw [hfk] at this; simpa using this
  rw [← e]
  exact hr
def put (f : Int → Option Value) (k : Int) (v : Option Value) : Int → Option Value := fun j => if j = k then v else f j
theorem lit_ne {a b : Int} (h : a ≠ b) : (Lit.int .u16 a) ≠ Lit.int .u16 b := fun e => h (by injection e)
theorem MapIs.store {w : World} {b n : Nat} {f : Int → Option Value} (h : MapIs w b n f) {t e : TypeId} (ht : Try.prog.underlying t = some (.map 50 e)) {k : Int} (h0 : 0 ≤ k) (h1 : k ≤ 65535) (hk : f k = none) (hn : n ≤ 1000) (v : Value) :
    ∃ w', (Instr.mapUpdate t (.map (some b)) (.int .u16 k) v).run Try.prog w = .ok () w' ∧ MapIs w' b (n + 1) (put f k (some v)) ∧ w.mapTurned w' b := by
  obtain ⟨D, ho, hs, hf⟩ := h
  obtain ⟨w', hr, ho', ht'⟩ := ho.store kd50 ht (by unfold maxLen; omega) (keyIs h0 h1) (val := v) (d := .held v) (ps := []) rfl
  have hD := ho.tidy kd50
  have hh : Maps.has D (.int .u16 k) = false := by rw [(hf k h0 h1).2, hk]; rfl
  have hsz : Maps.size (D.put (.int .u16 k) (.held v)) = n + 1 := by rw [Maps.size_put hD, hh]; simp [hs]
  refine ⟨w', hr, ⟨_, ho', hsz, fun j j0 j1 => ?_⟩, ht'⟩
  unfold put
  by_cases e : j = k
  · subst e
    rw [if_pos rfl]
    exact ⟨fun z => Maps.atKey_put_same hD.isMap (kd50.key (keyIs h0 h1)) _ _, Maps.has_put_same hD.isMap (kd50.key (keyIs h0 h1)) _⟩
  · rw [if_neg e]
    exact ⟨fun z => (Maps.atKey_put_other (lit_ne e) _ _).trans ((hf j j0 j1).1 z), (Maps.has_put_other (lit_ne e) _).trans (hf j j0 j1).2⟩
theorem MapIs.drop {w : World} {b n : Nat} {f : Int → Option Value} (h : MapIs w b (n + 1) f) {t e : TypeId} (ht : Try.prog.underlying t = some (.map 50 e)) {k : Int} (h0 : 0 ≤ k) (h1 : k ≤ 65535) (hk : (f k).isSome = true) (ty : TypeId) :
    ∃ w', (Builtin.delete_ #[t, 50] ty #[.map (some b), .int .u16 k]).run Try.prog w = .ok (.tuple #[]) w' ∧ MapIs w' b n (put f k none) ∧ w.mapTurned w' b := by
  obtain ⟨D, ho, hs, hf⟩ := h
  obtain ⟨w', hr, ho', ht'⟩ := ho.drop kd50 ht (keyIs h0 h1) ty
  have hD := ho.tidy kd50
  have hh : Maps.has D (.int .u16 k) = true := by rw [(hf k h0 h1).2, hk]
  have hsz : Maps.size (D.del (.int .u16 k)) = n := by have := Maps.size_del (k := .int .u16 k) hD; rw [hh] at this; simp at this; omega
  refine ⟨w', hr, ⟨_, by have := own_exact ho'; rwa [hsz] at this, hsz, fun j j0 j1 => ?_⟩, ht'⟩
  unfold put
  by_cases e : j = k
  · subst e
    rw [if_pos rfl]
    exact ⟨fun z => Maps.atKey_del_same _, Maps.has_del_same⟩
  · rw [if_neg e]
    exact ⟨fun z => (Maps.atKey_del_other (lit_ne e) _).trans ((hf j j0 j1).1 z), (Maps.has_del_other (lit_ne e)).trans (hf j j0 j1).2⟩
theorem MapIs.len {w : World} {b n : Nat} {f : Int → Option Value} (h : MapIs w b n f) {t e : TypeId} (ht : Try.prog.underlying t = some (.map 50 e)) (ty : TypeId) : (Builtin.len_ #[t] ty #[.map (some b)]).run Try.prog w = .ok (.int .i64 n) w := by
  obtain ⟨D, ho, hs, hf⟩ := h
  rw [← hs]; exact ho.len ht ty
theorem MapIs.kept {w w' : World} {b n : Nat} {f : Int → Option Value} (h : MapIs w b n f) (hk : w'.heap[b]? = w.heap[b]?) : MapIs w' b n f := by
  obtain ⟨D, ⟨es, clock, hb, F, hs, hD⟩, hsz, hf⟩ := h
  exact ⟨D, ⟨es, clock, hk.trans hb, F, hs, hD⟩, hsz, hf⟩
theorem MapIs.lt {w : World} {b n : Nat} {f : Int → Option Value} (h : MapIs w b n f) : b < w.heap.size := by
  obtain ⟨D, ho, _⟩ := h; exact ho.lt
theorem MapIs.below {w w' : World} {b n : Nat} {f : Int → Option Value} (h : MapIs w b n f) (hb : Below w.heap.size w w') : MapIs w' b n f := h.kept (hb.block b h.lt)
theorem MapIs.noCells {w : World} {b n : Nat} {f : Int → Option Value} (h : MapIs w b n f) {cs : Array Value} {t : TypeId} {fr : Nat × Nat} (hc : w.heap[b]? = some (.cells cs t fr)) : False := by
  obtain ⟨D, ⟨es, clock, hb, _⟩, _⟩ := h
  rw [hc] at hb; cases hb
theorem turned_only {w w' : World} {b : Nat} (h : w.mapTurned w' b) : Only b w w' := by
  have hg := h.grown
  exact ⟨hg.os, hg.tape, hg.output, hg.size, fun k hk hne => hg.block k hk (by simp; omega)⟩
end Go.Proofs.Ytlpopnacfggiiaa.Base
