/- Layer 10: GroupKnown's walk. -/
import Derived.Test.YtcfojkejajanlaaOpen
set_option linter.unusedVariables false
set_option linter.unusedSimpArgs false
namespace Go.Proofs.Ytcfojkejajanlaa.Base
open Go.RowKit Go.Proofs.YtcfojkejajanlaaW.PrintWords Go.Proofs.YtcfojkejajanlaaW.PrintLast Go.Proofs.YtcfojkejajanlaaW.PrintMore Go.Proofs.Ytcfojkejajanlaa.PGroupPlays

/-- A group that is none: nil, or one that was never made. -/
def NoneG (w : World) (v : Value) : Prop := v = .pointer none ∨ ∃ g, v = .pointer (some ⟨g, 0, none⟩) ∧ w.cell? ⟨g, 3, none⟩ = some (.bool false)
set_option maxHeartbeats 400000 in
theorem none_made (g : Nat) (w : World) (h : w.cell? ⟨g, 3, none⟩ = some (.bool false)) : Calls Try.prog 22 #[.pointer (some ⟨g, 0, none⟩)] w fun e w' => e = .returned (.bool true) ∧ w = w' := by
  go_enter Try.func22, Try.ntmps22
  go_wp2
  go_ret
  exact ⟨rfl, rfl⟩
theorem none_c (v : Value) (w : World) (h : NoneG w v) : Calls Try.prog 22 #[v] w fun e w' => e = .returned (.bool true) ∧ w = w' := by
  rcases h with rfl | ⟨g, rfl, hc⟩
  · exact none_nil w
  · exact none_made g w hc
set_option maxHeartbeats 400000 in
theorem first_none (v : Value) (w : World) (h : NoneG w v) : Calls Try.prog 12 #[v] w fun e w' => e = .returned (.tuple #[.int .i64 0, .bool false]) ∧ w = w' := by
  have H := Bx.mk h
  clear h
  go_enter Try.func12, Try.ntmps12
  go_wp2_with (go_at_call 22; (with_reducible refine (none_c _ _ ?hc).mono ?_); (case hc => exact H.out); rintro e w' ⟨rfl, rfl⟩)
  go_ret2
  exact ⟨rfl, rfl⟩
set_option maxHeartbeats 400000 in
theorem live_none (v : Value) (p : Int) (b : Bool) (w : World) (h : NoneG w v) : Calls Try.prog 10 #[v, .int .i64 p, .bool b] w fun e w' => e = .returned (.int .i64 1) ∧ w = w' := by
  have H := Bx.mk h
  clear h
  go_enter Try.func10, Try.ntmps10
  go_wp2_with (go_at_call 22; (with_reducible refine (none_c _ _ ?hc).mono ?_); (case hc => exact H.out); rintro e w' ⟨rfl, rfl⟩)
  go_ret
  exact ⟨rfl, rfl⟩
set_option maxHeartbeats 400000 in
theorem ports_none (v : Value) (w : World) (h : NoneG w v) : Calls Try.prog 14 #[v] w fun e w' => e = .returned (.slice none 0 0) ∧ w = w' := by
  have H := Bx.mk h
  clear h
  go_enter Try.func14, Try.ntmps14
  go_wp2_with (go_at_call 22; (with_reducible refine (none_c _ _ ?hc).mono ?_); (case hc => exact H.out); rintro e w' ⟨rfl, rfl⟩)
  go_ret
  exact ⟨rfl, rfl⟩
theorem none_q (v : Value) (w : World) (h : NoneG w v) : Calls Try.prog 22 #[v] w fun e w' => e = .returned (.bool true) ∧ w' = w := (none_c v w h).mono fun _ _ h => ⟨h.1, h.2.symm⟩
set_option maxHeartbeats 400000 in
theorem up_none (v : Value) (p : Int) (w : World) (h : NoneG w v) : Calls Try.prog 16 #[v, .int .i64 p] w fun e w' => e = .returned (.bool false) ∧ Drawn0 w w' := by
  have H := Bx.mk h
  clear h
  go_enter Try.func16, Try.ntmps16
  go_wp2_with fail
  go_quiet ((go_at_call 22; exact Calls.quiet_of_same (none_q _ _ H.out)))
  go_wp2
  go_ret
  exact ⟨rfl, ⟨⟨_, rfl⟩⟩⟩
def pk : Kd (Int × Bool) := Kd.pair (Kd.int .i64) Kd.bool
theorem doRow_of {w : World} {A : Option Addr} {n : Nat} {xs : List (Int × Bool)} (h : pk.C w A n xs) : DoRow w A n xs := by
  refine ⟨h.1, h.2.1, fun hp => ?_⟩
  obtain ⟨ad, c0, hA, _⟩ := Kd.C_get h (0, false) 0 (by omega) (by omega)
  refine ⟨ad, hA, fun i hi => ?_⟩
  obtain ⟨ad', c, hA', hcl, hk, hcc⟩ := Kd.C_get h (0, false) (i : Int) (by omega) (by omega)
  obtain rfl : ad = ad' := by rw [hA] at hA'; simpa using hA'
  obtain ⟨d0, d1, rfl, h0, h1⟩ := hk
  have e0 : d0 = [Value.int .i64 (xs.getD i (0, false)).1] := by simpa [Kd.int, Kd.scalar] using h0
  have e1 : d1 = [Value.bool (xs.getD i (0, false)).2] := by simpa [Kd.bool, Kd.scalar] using h1
  subst e0 e1
  refine ⟨by simpa [pk, Kd.pair, Kd.int, Kd.bool, Kd.scalar] using hcc 0 _ rfl, ?_⟩
  rw [← add_field ad (i * 2) 1 (by omega)]
  simpa [pk, Kd.pair, Kd.int, Kd.bool, Kd.scalar] using hcc 1 _ rfl
theorem pk_one (w : World) (x : Int × Bool) : pk.K w x [.int .i64 x.1, .bool x.2] := ⟨[.int .i64 x.1], [.bool x.2], rfl, rfl, rfl⟩
theorem three_C (W : World) (x y z : Int × Bool) (b : Nat) (hb : W.heap.size = b) :
    pk.C (W.alloc (.cells #[.int .i64 x.1, .bool x.2, .int .i64 y.1, .bool y.2, .int .i64 z.1, .bool z.2] 35)) (some ⟨b, 0, none⟩) 3 [x, y, z] := by
  subst hb
  have hg := heap_alloc_new W (.cells #[.int .i64 x.1, .bool x.2, .int .i64 y.1, .bool y.2, .int .i64 z.1, .bool z.2] 35)
  refine ⟨rfl, by omega, fun _ => ⟨_, rfl, ?_⟩⟩
  intro j p hj
  refine ⟨[.int .i64 p.1, .bool p.2], rfl, pk_one _ p, ?_⟩
  intro i u hu
  rw [add_plain, blk_cell hg]
  have hj3 : j = 0 ∨ j = 1 ∨ j = 2 := by
    have := (List.getElem?_eq_some_iff.1 hj).1; simp at this; omega
  have hi2 : i = 0 ∨ i = 1 := by
    have := (List.getElem?_eq_some_iff.1 hu).1; simp at this; omega
  rcases hj3 with rfl | rfl | rfl <;> rcases hi2 with rfl | rfl <;> simp at hj hu <;> subst hj hu <;> rfl
theorem info35 : (Try.prog.info? 35).map (fun i => (i.zero, i.size, i.bytes)) = some (some (.agg #[.int .i64 0, .bool false]), 2, 16) := by kernel_rfl
theorem newNone (W : World) : NoneG (W.alloc (.cells #[.slice none 0 0, .int .u64 0, .int .u64 0, .bool false] 48)) (.pointer (some ⟨W.heap.size, 0, none⟩)) :=
  .inr ⟨_, rfl, cell_of_row _ _ 3 _ 48 (0, 0) (heap_alloc_new W _)⟩
theorem NoneG.below {w w' : World} {v : Value} (h : NoneG w v) (hb : Below w.heap.size w w') : NoneG w' v := by
  rcases h with rfl | ⟨g, rfl, hc⟩
  · exact .inl rfl
  · exact .inr ⟨g, rfl, pw_cell_below hb hc⟩
def ob (zs : List Int) : Obj := .cells (zs.map (Value.int .i64)).toArray 3
def V0 (W : World) : World := W
def V1 (W : World) : World := (V0 W).alloc (ob [0])
def V2 (W : World) : World := (V1 W).alloc (ob [1])
def V3 (W : World) : World := (V2 W).alloc (ob [4])
def V4 (W : World) : World := (V3 W).alloc (ob [5])
def V5 (W : World) : World := (V4 W).alloc (ob [(-1)])
def V6 (W : World) : World := (V5 W).alloc (ob [1, 2, 3, 4])
def V7 (W : World) : World := (V6 W).alloc (ob [4, 3, 2, 1])
def V8 (W : World) : World := (V7 W).alloc (ob [2, 4, 2])
def V9 (W : World) : World := (V8 W).alloc (ob [1, 2, 3, 4, 1])
def V10 (W : World) : World := (V9 W).alloc (ob [65])
def V11 (W : World) : World := (V10 W).alloc (ob [4611686018427387904, 1])
theorem V0_size (W : World) : (V0 W).heap.size = W.heap.size := rfl
theorem V1_size (W : World) : (V1 W).heap.size = W.heap.size + 1 := by rw [← V0_size W]; exact World.size_alloc _ _
theorem V2_size (W : World) : (V2 W).heap.size = W.heap.size + 1 + 1 := by rw [← V1_size W]; exact World.size_alloc _ _
theorem V3_size (W : World) : (V3 W).heap.size = W.heap.size + 1 + 1 + 1 := by rw [← V2_size W]; exact World.size_alloc _ _
theorem V4_size (W : World) : (V4 W).heap.size = W.heap.size + 1 + 1 + 1 + 1 := by rw [← V3_size W]; exact World.size_alloc _ _
theorem V5_size (W : World) : (V5 W).heap.size = W.heap.size + 1 + 1 + 1 + 1 + 1 := by rw [← V4_size W]; exact World.size_alloc _ _
theorem V6_size (W : World) : (V6 W).heap.size = W.heap.size + 1 + 1 + 1 + 1 + 1 + 1 := by rw [← V5_size W]; exact World.size_alloc _ _
theorem V7_size (W : World) : (V7 W).heap.size = W.heap.size + 1 + 1 + 1 + 1 + 1 + 1 + 1 := by rw [← V6_size W]; exact World.size_alloc _ _
theorem V8_size (W : World) : (V8 W).heap.size = W.heap.size + 1 + 1 + 1 + 1 + 1 + 1 + 1 + 1 := by rw [← V7_size W]; exact World.size_alloc _ _
theorem V9_size (W : World) : (V9 W).heap.size = W.heap.size + 1 + 1 + 1 + 1 + 1 + 1 + 1 + 1 + 1 := by rw [← V8_size W]; exact World.size_alloc _ _
theorem V10_size (W : World) : (V10 W).heap.size = W.heap.size + 1 + 1 + 1 + 1 + 1 + 1 + 1 + 1 + 1 + 1 := by rw [← V9_size W]; exact World.size_alloc _ _
theorem V11_size (W : World) : (V11 W).heap.size = W.heap.size + 1 + 1 + 1 + 1 + 1 + 1 + 1 + 1 + 1 + 1 + 1 := by rw [← V10_size W]; exact World.size_alloc _ _
def V12 (W : World) : World := (V11 W).alloc (.cells #[.slice none 0 0, .slice (some ⟨W.heap.size, 0, none⟩) 1 1, .slice (some ⟨W.heap.size + 1, 0, none⟩) 1 1, .slice (some ⟨W.heap.size + 1 + 1, 0, none⟩) 1 1, .slice (some ⟨W.heap.size + 1 + 1 + 1, 0, none⟩) 1 1, .slice (some ⟨W.heap.size + 1 + 1 + 1 + 1, 0, none⟩) 1 1, .slice (some ⟨W.heap.size + 1 + 1 + 1 + 1 + 1, 0, none⟩) 4 4, .slice (some ⟨W.heap.size + 1 + 1 + 1 + 1 + 1 + 1, 0, none⟩) 4 4, .slice (some ⟨W.heap.size + 1 + 1 + 1 + 1 + 1 + 1 + 1, 0, none⟩) 3 3, .slice (some ⟨W.heap.size + 1 + 1 + 1 + 1 + 1 + 1 + 1 + 1, 0, none⟩) 5 5, .slice (some ⟨W.heap.size + 1 + 1 + 1 + 1 + 1 + 1 + 1 + 1 + 1, 0, none⟩) 1 1, .slice (some ⟨W.heap.size + 1 + 1 + 1 + 1 + 1 + 1 + 1 + 1 + 1 + 1, 0, none⟩) 2 2] 22)
theorem V_at0 (W : World) : (V12 W).heap[W.heap.size]? = some (ob [0]) := by
  have h := heap_alloc_new (V0 W) (ob [0])
  rw [V0_size] at h
  exact blk_alloc (blk_alloc (blk_alloc (blk_alloc (blk_alloc (blk_alloc (blk_alloc (blk_alloc (blk_alloc (blk_alloc (blk_alloc (h) _) _) _) _) _) _) _) _) _) _) _
theorem V_at1 (W : World) : (V12 W).heap[W.heap.size + 1]? = some (ob [1]) := by
  have h := heap_alloc_new (V1 W) (ob [1])
  rw [V1_size] at h
  exact blk_alloc (blk_alloc (blk_alloc (blk_alloc (blk_alloc (blk_alloc (blk_alloc (blk_alloc (blk_alloc (blk_alloc (h) _) _) _) _) _) _) _) _) _) _
theorem V_at2 (W : World) : (V12 W).heap[W.heap.size + 1 + 1]? = some (ob [4]) := by
  have h := heap_alloc_new (V2 W) (ob [4])
  rw [V2_size] at h
  exact blk_alloc (blk_alloc (blk_alloc (blk_alloc (blk_alloc (blk_alloc (blk_alloc (blk_alloc (blk_alloc (h) _) _) _) _) _) _) _) _) _
theorem V_at3 (W : World) : (V12 W).heap[W.heap.size + 1 + 1 + 1]? = some (ob [5]) := by
  have h := heap_alloc_new (V3 W) (ob [5])
  rw [V3_size] at h
  exact blk_alloc (blk_alloc (blk_alloc (blk_alloc (blk_alloc (blk_alloc (blk_alloc (blk_alloc (h) _) _) _) _) _) _) _) _
theorem V_at4 (W : World) : (V12 W).heap[W.heap.size + 1 + 1 + 1 + 1]? = some (ob [(-1)]) := by
  have h := heap_alloc_new (V4 W) (ob [(-1)])
  rw [V4_size] at h
  exact blk_alloc (blk_alloc (blk_alloc (blk_alloc (blk_alloc (blk_alloc (blk_alloc (h) _) _) _) _) _) _) _
theorem V_at5 (W : World) : (V12 W).heap[W.heap.size + 1 + 1 + 1 + 1 + 1]? = some (ob [1, 2, 3, 4]) := by
  have h := heap_alloc_new (V5 W) (ob [1, 2, 3, 4])
  rw [V5_size] at h
  exact blk_alloc (blk_alloc (blk_alloc (blk_alloc (blk_alloc (blk_alloc (h) _) _) _) _) _) _
theorem V_at6 (W : World) : (V12 W).heap[W.heap.size + 1 + 1 + 1 + 1 + 1 + 1]? = some (ob [4, 3, 2, 1]) := by
  have h := heap_alloc_new (V6 W) (ob [4, 3, 2, 1])
  rw [V6_size] at h
  exact blk_alloc (blk_alloc (blk_alloc (blk_alloc (blk_alloc (h) _) _) _) _) _
theorem V_at7 (W : World) : (V12 W).heap[W.heap.size + 1 + 1 + 1 + 1 + 1 + 1 + 1]? = some (ob [2, 4, 2]) := by
  have h := heap_alloc_new (V7 W) (ob [2, 4, 2])
  rw [V7_size] at h
  exact blk_alloc (blk_alloc (blk_alloc (blk_alloc (h) _) _) _) _
theorem V_at8 (W : World) : (V12 W).heap[W.heap.size + 1 + 1 + 1 + 1 + 1 + 1 + 1 + 1]? = some (ob [1, 2, 3, 4, 1]) := by
  have h := heap_alloc_new (V8 W) (ob [1, 2, 3, 4, 1])
  rw [V8_size] at h
  exact blk_alloc (blk_alloc (blk_alloc (h) _) _) _
theorem V_at9 (W : World) : (V12 W).heap[W.heap.size + 1 + 1 + 1 + 1 + 1 + 1 + 1 + 1 + 1]? = some (ob [65]) := by
  have h := heap_alloc_new (V9 W) (ob [65])
  rw [V9_size] at h
  exact blk_alloc (blk_alloc (h) _) _
theorem V_at10 (W : World) : (V12 W).heap[W.heap.size + 1 + 1 + 1 + 1 + 1 + 1 + 1 + 1 + 1 + 1]? = some (ob [4611686018427387904, 1]) := by
  have h := heap_alloc_new (V10 W) (ob [4611686018427387904, 1])
  rw [V10_size] at h
  exact blk_alloc (h) _
theorem V_at11 (W : World) : (V12 W).heap[W.heap.size + 1 + 1 + 1 + 1 + 1 + 1 + 1 + 1 + 1 + 1 + 1]? = some (.cells #[.slice none 0 0, .slice (some ⟨W.heap.size, 0, none⟩) 1 1, .slice (some ⟨W.heap.size + 1, 0, none⟩) 1 1, .slice (some ⟨W.heap.size + 1 + 1, 0, none⟩) 1 1, .slice (some ⟨W.heap.size + 1 + 1 + 1, 0, none⟩) 1 1, .slice (some ⟨W.heap.size + 1 + 1 + 1 + 1, 0, none⟩) 1 1, .slice (some ⟨W.heap.size + 1 + 1 + 1 + 1 + 1, 0, none⟩) 4 4, .slice (some ⟨W.heap.size + 1 + 1 + 1 + 1 + 1 + 1, 0, none⟩) 4 4, .slice (some ⟨W.heap.size + 1 + 1 + 1 + 1 + 1 + 1 + 1, 0, none⟩) 3 3, .slice (some ⟨W.heap.size + 1 + 1 + 1 + 1 + 1 + 1 + 1 + 1, 0, none⟩) 5 5, .slice (some ⟨W.heap.size + 1 + 1 + 1 + 1 + 1 + 1 + 1 + 1 + 1, 0, none⟩) 1 1, .slice (some ⟨W.heap.size + 1 + 1 + 1 + 1 + 1 + 1 + 1 + 1 + 1 + 1, 0, none⟩) 2 2] 22 (0, 0)) := by
  have h := heap_alloc_new (V11 W) (.cells #[.slice none 0 0, .slice (some ⟨W.heap.size, 0, none⟩) 1 1, .slice (some ⟨W.heap.size + 1, 0, none⟩) 1 1, .slice (some ⟨W.heap.size + 1 + 1, 0, none⟩) 1 1, .slice (some ⟨W.heap.size + 1 + 1 + 1, 0, none⟩) 1 1, .slice (some ⟨W.heap.size + 1 + 1 + 1 + 1, 0, none⟩) 1 1, .slice (some ⟨W.heap.size + 1 + 1 + 1 + 1 + 1, 0, none⟩) 4 4, .slice (some ⟨W.heap.size + 1 + 1 + 1 + 1 + 1 + 1, 0, none⟩) 4 4, .slice (some ⟨W.heap.size + 1 + 1 + 1 + 1 + 1 + 1 + 1, 0, none⟩) 3 3, .slice (some ⟨W.heap.size + 1 + 1 + 1 + 1 + 1 + 1 + 1 + 1, 0, none⟩) 5 5, .slice (some ⟨W.heap.size + 1 + 1 + 1 + 1 + 1 + 1 + 1 + 1 + 1, 0, none⟩) 1 1, .slice (some ⟨W.heap.size + 1 + 1 + 1 + 1 + 1 + 1 + 1 + 1 + 1 + 1, 0, none⟩) 2 2] 22)
  rw [V11_size] at h
  exact h
theorem belowV0 {B : Nat} (W : World) (hB : B ≤ W.heap.size) : Below B W (V0 W) := Below.refl _ _
theorem belowV1 {B : Nat} (W : World) (hB : B ≤ W.heap.size) : Below B W (V1 W) := (belowV0 W hB).alloc (by rw [V0_size]; omega) _
theorem belowV2 {B : Nat} (W : World) (hB : B ≤ W.heap.size) : Below B W (V2 W) := (belowV1 W hB).alloc (by rw [V1_size]; omega) _
theorem belowV3 {B : Nat} (W : World) (hB : B ≤ W.heap.size) : Below B W (V3 W) := (belowV2 W hB).alloc (by rw [V2_size]; omega) _
theorem belowV4 {B : Nat} (W : World) (hB : B ≤ W.heap.size) : Below B W (V4 W) := (belowV3 W hB).alloc (by rw [V3_size]; omega) _
theorem belowV5 {B : Nat} (W : World) (hB : B ≤ W.heap.size) : Below B W (V5 W) := (belowV4 W hB).alloc (by rw [V4_size]; omega) _
theorem belowV6 {B : Nat} (W : World) (hB : B ≤ W.heap.size) : Below B W (V6 W) := (belowV5 W hB).alloc (by rw [V5_size]; omega) _
theorem belowV7 {B : Nat} (W : World) (hB : B ≤ W.heap.size) : Below B W (V7 W) := (belowV6 W hB).alloc (by rw [V6_size]; omega) _
theorem belowV8 {B : Nat} (W : World) (hB : B ≤ W.heap.size) : Below B W (V8 W) := (belowV7 W hB).alloc (by rw [V7_size]; omega) _
theorem belowV9 {B : Nat} (W : World) (hB : B ≤ W.heap.size) : Below B W (V9 W) := (belowV8 W hB).alloc (by rw [V8_size]; omega) _
theorem belowV10 {B : Nat} (W : World) (hB : B ≤ W.heap.size) : Below B W (V10 W) := (belowV9 W hB).alloc (by rw [V9_size]; omega) _
theorem belowV11 {B : Nat} (W : World) (hB : B ≤ W.heap.size) : Below B W (V11 W) := (belowV10 W hB).alloc (by rw [V10_size]; omega) _
theorem belowV12 {B : Nat} (W : World) (hB : B ≤ W.heap.size) : Below B W (V12 W) := (belowV11 W hB).alloc (by rw [V11_size]; omega) _
def RowsAt (w : World) (g : Nat) : Prop := ∀ i : Nat, i < 12 → ∃ (A : Option Addr) (c : Nat) (zs : List Int), w.cell? ⟨g, i, none⟩ = some (.slice A zs.length c) ∧ (Kd.int .i64).C w A zs.length zs ∧ zs.length ≤ c
theorem RowsAt.below {w w' : World} {g : Nat} (h : RowsAt w g) (hb : Below w.heap.size w w') : RowsAt w' g := fun i hi => by
  obtain ⟨A, c, zs, h1, h2, h3⟩ := h i hi
  exact ⟨A, c, zs, pw_cell_below hb h1, Kd.C_below h2 hb, h3⟩
theorem rows_ok (W : World) : RowsAt (V12 W) (W.heap.size + 1 + 1 + 1 + 1 + 1 + 1 + 1 + 1 + 1 + 1 + 1) := by
  intro i hi
  have hs : i = 0 ∨ i = 1 ∨ i = 2 ∨ i = 3 ∨ i = 4 ∨ i = 5 ∨ i = 6 ∨ i = 7 ∨ i = 8 ∨ i = 9 ∨ i = 10 ∨ i = 11 := by omega
  have hc := fun k => blk_cell (V_at11 W) k
  rcases hs with rfl | rfl | rfl | rfl | rfl | rfl | rfl | rfl | rfl | rfl | rfl | rfl
  · exact ⟨none, 0, [], (hc 0).trans rfl, Kd.C_of_reads (d := (0 : Int)) (h1 := fun _ => rfl) ⟨rfl, by simp, fun h => by simp at h⟩, by decide⟩
  · exact ⟨some ⟨W.heap.size, 0, none⟩, 1, [0], (hc 1).trans rfl, litC _ [0] _ (V_at0 W) (by decide), by decide⟩
  · exact ⟨some ⟨W.heap.size + 1, 0, none⟩, 1, [1], (hc 2).trans rfl, litC _ [1] _ (V_at1 W) (by decide), by decide⟩
  · exact ⟨some ⟨W.heap.size + 1 + 1, 0, none⟩, 1, [4], (hc 3).trans rfl, litC _ [4] _ (V_at2 W) (by decide), by decide⟩
  · exact ⟨some ⟨W.heap.size + 1 + 1 + 1, 0, none⟩, 1, [5], (hc 4).trans rfl, litC _ [5] _ (V_at3 W) (by decide), by decide⟩
  · exact ⟨some ⟨W.heap.size + 1 + 1 + 1 + 1, 0, none⟩, 1, [(-1)], (hc 5).trans rfl, litC _ [(-1)] _ (V_at4 W) (by decide), by decide⟩
  · exact ⟨some ⟨W.heap.size + 1 + 1 + 1 + 1 + 1, 0, none⟩, 4, [1, 2, 3, 4], (hc 6).trans rfl, litC _ [1, 2, 3, 4] _ (V_at5 W) (by decide), by decide⟩
  · exact ⟨some ⟨W.heap.size + 1 + 1 + 1 + 1 + 1 + 1, 0, none⟩, 4, [4, 3, 2, 1], (hc 7).trans rfl, litC _ [4, 3, 2, 1] _ (V_at6 W) (by decide), by decide⟩
  · exact ⟨some ⟨W.heap.size + 1 + 1 + 1 + 1 + 1 + 1 + 1, 0, none⟩, 3, [2, 4, 2], (hc 8).trans rfl, litC _ [2, 4, 2] _ (V_at7 W) (by decide), by decide⟩
  · exact ⟨some ⟨W.heap.size + 1 + 1 + 1 + 1 + 1 + 1 + 1 + 1, 0, none⟩, 5, [1, 2, 3, 4, 1], (hc 9).trans rfl, litC _ [1, 2, 3, 4, 1] _ (V_at8 W) (by decide), by decide⟩
  · exact ⟨some ⟨W.heap.size + 1 + 1 + 1 + 1 + 1 + 1 + 1 + 1 + 1, 0, none⟩, 1, [65], (hc 10).trans rfl, litC _ [65] _ (V_at9 W) (by decide), by decide⟩
  · exact ⟨some ⟨W.heap.size + 1 + 1 + 1 + 1 + 1 + 1 + 1 + 1 + 1 + 1, 0, none⟩, 2, [4611686018427387904, 1], (hc 11).trans rfl, litC _ [4611686018427387904, 1] _ (V_at10 W) (by decide), by decide⟩
set_option maxHeartbeats 4000000 in
set_option maxRecDepth 100000 in
theorem known_c (w : World) : Calls Try.prog 5 #[] w fun e w' => e = .returned (.bool true) ∧ Below w.heap.size w w' := by
  have hu48 := Try.underlying48
  have hu35 := Try.underlying35
  go_enter Try.func5, Try.ntmps5
  go_wp2_with fail
  go_loopw [1, 2] (fun v1 v2 wr => ∃ i : Nat, i ≤ 2 ∧ v2 = .int .i64 i ∧ Bx (NoneG wr v1) ∧ Bx (Below w.heap.size w wr) ∧ Bx (w.heap.size ≤ wr.heap.size)) (fun _ v _ => 2 - (intOf v).toNat)
  case atStart => exact ⟨0, by omega, rfl, ⟨.inl rfl⟩, ⟨Below.refl _ _⟩, ⟨Nat.le_refl _⟩⟩
  case round =>
    obtain ⟨i, hi, rfl, HN, HB, HS⟩ := hrel
    by_cases h : i < 2
    · go_wp2_with (first | (go_at_call 12; (with_reducible refine (first_none _ _ HN.out).mono ?_); rintro e w' ⟨rfl, rfl⟩) | (go_at_call 10; (with_reducible refine (live_none _ _ _ _ HN.out).mono ?_); rintro e w' ⟨rfl, rfl⟩) | (go_at_call 16; (with_reducible refine (up_none _ _ _ HN.out).mono ?_); rintro e w' ⟨rfl, hd⟩; obtain ⟨nd, rfl⟩ := hd.out; clear hd) | (go_at_call 14; (with_reducible refine (ports_none _ _ ?hc).mono ?_); (case hc => exact HN.out); rintro e w' ⟨rfl, rfl⟩))
      go_roundw
      case rel => exact ⟨i + 1, by omega, by go_num, ⟨newNone _⟩, ⟨(pw_below_drewN HB.out _).alloc HS.out _⟩, ⟨by simp; have := HS.out; omega⟩⟩
      case measure => simp [intOf]; omega
    · obtain ⟨wo, rfl⟩ : ∃ wo : World, wo = wr := ⟨_, rfl⟩
      go_wp2_with fail
      clear HN h hi
      go_loopw [5, 6] (fun v5 v6 wr => ∃ (k : Int) (xs : List (Int × Bool)), -1 ≤ k ∧ k ≤ 6 ∧ v6 = .int .i64 k ∧ Bx (xs.length ≤ 3 * (k + 1).toNat) ∧ Bx (pk.R 35 wr w.heap.size (fun _ => True) v5 xs) ∧ Bx (Below w.heap.size w wr) ∧ Bx (w.heap.size ≤ wr.heap.size)) (fun _ v _ => (6 - intOf v).toNat)
      case atStart => exact ⟨-1, [], by omega, by omega, rfl, ⟨by simp⟩, ⟨Kd.R_nil _ _ _ _ _⟩, HB, HS⟩
      case round =>
        clear HB HS
        obtain ⟨k, xs, hk0, hk1, rfl, HX, HR, HB, HS⟩ := hrel
        obtain ⟨A5, c5, rfl, hc5, hC5⟩ := Kd.R_reads HR.out
        have HC5 := Bx.mk hC5
        clear hC5
        by_cases h : k < 6
        · go_wp2_with (at_builtin; go_must (refine Kd.R_append_rows pk (w0 := w) w.heap.size rfl (.tmp 40) (.tmp 51) 23 35 (.agg #[.int .i64 0, .bool false]) 16 rfl Try.underlying23 info35 rfl (by decide) (by omega) (.slice A5 xs.length c5) xs [(k, false), (5 - k, true), (k, k.tmod 2 == 0)] _ _ _ (fun _ => True) (fun _ => False) rfl rfl ?aO ?aR (fun _ _ h => h) (fun _ h => h.elim) ?aF ?aB ?aS ?aL ?_; (case aO => exact Kd.R_alloc HR.out _); (case aR => exact three_C _ _ _ _ _ rfl); (case aF => exact fun _ _ => trivial); (case aB => exact HB.out.alloc HS.out _); (case aS => simp; have := HS.out; omega); (case aL => have := HX.out; omega); intro v1 w1 ho hb hg hat; have n0 := Bx.mk ho; have n1 := Bx.mk hb; have n2 := Bx.mk (show w.heap.size ≤ w1.heap.size from hb.size); clear ho hb hg hat))
          go_roundw
          case rel => exact ⟨k + 1, xs ++ [(k, false), (5 - k, true), (k, k.tmod 2 == 0)], by omega, by omega, by first | rfl | go_num, ⟨by have := HX.out; simp; omega⟩, n0, n1, n2⟩
          case measure => simp [intOf]; omega
        · obtain ⟨wo2, rfl⟩ : ∃ wo2 : World, wo2 = wr := ⟨_, rfl⟩
          go_wp2_with fail
          have HRW := Bx.mk (rows_ok wo2)
          have HB3 := Bx.mk (show Below w.heap.size w (V12 wo2) from HB.out.trans (belowV12 wo2 HS.out))
          have HS3 := Bx.mk (show w.heap.size ≤ (V12 wo2).heap.size from HB3.out.size)
          have HD := Bx.mk (show pk.C (V12 wo2) A5 xs.length xs from Kd.C_below HC5.out (belowV12 wo2 (Nat.le_refl _)))
          clear HB HS HC5 HR HX h
          go_loopw [8] (fun v wr => ∃ j : Nat, j ≤ 12 ∧ v = .int .i64 j ∧ Bx (RowsAt wr (wo2.heap.size + 1 + 1 + 1 + 1 + 1 + 1 + 1 + 1 + 1 + 1 + 1)) ∧ Bx (Below w.heap.size w wr) ∧ Bx (w.heap.size ≤ wr.heap.size) ∧ Bx (pk.C wr A5 xs.length xs)) (fun v _ => 12 - (intOf v).toNat)
          case atStart => exact ⟨0, by omega, rfl, HRW, HB3, HS3, HD⟩
          case round =>
            clear HRW HB3 HS3 HD
            obtain ⟨j, hj, rfl, HRW, HB, HS, HD⟩ := hrel
            by_cases h : j < 12
            · obtain ⟨A, c, zs, hce, hC, hcl⟩ := HRW.out j h
              have HC := Bx.mk hC
              have j0 : (0 : Int) ≤ (j : Int) := by omega
              have j1 : (j : Int) < 12 := by omega
              clear hC
              go_wp2_with (go_at_call 3; (with_reducible refine (plays_c A A5 zs.length c xs.length c5 zs xs _ HC.out rfl hcl (doRow_of HD.out)).mono ?_); rintro e w5 ⟨rfl, hb⟩; have n0 := Bx.mk (HRW.out.below hb); have n1 := Bx.mk (next HB.out HS.out hb); have n2 := Bx.mk (Nat.le_trans HS.out hb.size); have n3 := Bx.mk (Kd.C_below HD.out hb); clear hb)
              go_roundw
              case rel => exact ⟨j + 1, by omega, by go_num, n0, n1, n2, n3⟩
              case measure => simp [intOf]; omega
            · go_wp2_with (go_at_call 18; (with_reducible refine (works_c _).mono ?_); rintro e w5 ⟨rfl, hb⟩; have n1 := Bx.mk (next HB.out HS.out hb); clear hb)
              go_ret
              exact ⟨rfl, n1.out⟩
end Go.Proofs.Ytcfojkejajanlaa.Base
