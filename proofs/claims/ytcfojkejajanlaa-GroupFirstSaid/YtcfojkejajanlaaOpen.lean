/- Layer 10: what a slice of calls, and a slice of ports, that came in read as; GroupPlays' walk over them. -/
import Derived.Test.YtcfojkejajanlaaPlaysy
import Derived.ProofKit
import Derived.Deep.SlicePairs
set_option linter.unusedVariables false
set_option linter.unusedSimpArgs false
namespace Go.Proofs.Ytcfojkejajanlaa.Base
open Go.ChangeShapes Go.WideShapes Go.ChangeAt Go.RowKit Go.Deep Go.Proofs.YtcfojkejajanlaaW.PrintWords Go.Proofs.YtcfojkejajanlaaW.PrintLast Go.Proofs.YtcfojkejajanlaaW.PrintMore Go.Proofs.Ytcfojkejajanlaa.PGroupPlays

theorem open_dos {H : Type} {enc : TypeId × Value → H} {W : World} {a : Option Addr} {n c : Nat} {d : DataW H} {p : List MemPlace} (h : DataW.Trod enc Try.prog W 0 (fun _ => true) true 23 (.slice a n c) d p) :
    ∃ ds, DoRow W a n ds := by
  obtain ⟨fuel, hf⟩ := h
  rcases open_slice_pairs Try.underlying23 Try.underlying35 (by kernel_rfl) rfl rfl (by kernel_rfl) (by kernel_rfl) hf with ⟨hcs, _⟩ | ⟨ad, len, cap, m, k, V0, V1, D0, D1, P0, P1, hcs, _, hl, hm, hmm, _, hc⟩
  · simp [Value.cells] at hcs
    obtain ⟨rfl, rfl, rfl⟩ := hcs
    exact ⟨[], rfl, by omega, fun h => by omega⟩
  · simp [Value.cells] at hcs
    obtain ⟨rfl, rfl, rfl⟩ := hcs
    have hlm : n ≤ m := by rw [hmm]; split <;> omega
    have each : ∀ i, i < n → ∃ q : Int × Bool, W.cell? (ad.add (i * 2)) = some (.int .i64 q.1) ∧ W.cell? ⟨(ad.add (i * 2)).block, (ad.add (i * 2)).off + 1, none⟩ = some (.bool q.2) := by
      intro i hi
      obtain ⟨h0, h1, t0, t1⟩ := hc i (by omega)
      obtain ⟨q, e0, _, _⟩ := DataW.trod_int Try.underlying3 t0
      obtain ⟨b, e1, _⟩ := DataW.trod_bool Try.underlying4 t1
      simp at e0 e1
      rw [add_field ad (i * 2) 1 (by omega)] at h1
      exact ⟨(q, b), by rw [h0, e0], by rw [h1, e1]⟩
    obtain ⟨f, hf⟩ := choose_lt each
    refine ⟨(List.range n).map f, by simp, by unfold maxLen at hm; omega, fun _ => ⟨ad, rfl, fun i hi => ?_⟩⟩
    have e : ((List.range n).map f).getD i (0, false) = f i := by simp [hi]
    rw [e]; exact hf i hi
theorem open_ps {H : Type} {enc : TypeId × Value → H} {W : World} {a : Option Addr} {n c : Nat} {d : DataW H} {p : List MemPlace} (h : DataW.Trod enc Try.prog W 0 (fun _ => true) true 22 (.slice a n c) d p) :
    ∃ zs : List Int, (Kd.int .i64).C W a zs.length zs ∧ zs.length = n ∧ n ≤ c := by
  obtain ⟨fuel, hf⟩ := h
  rcases open_ints Try.underlying22 Try.underlying3 (by kernel_rfl) hf with ⟨hcs, _⟩ | ⟨x, l, c', zs, hcs, _, hl, hm, hz, _, hcell, hwz⟩
  · simp [Value.cells] at hcs
    obtain ⟨rfl, rfl, rfl⟩ := hcs
    exact ⟨[], Kd.C_of_reads (d := (0 : Int)) (h1 := fun _ => rfl) ⟨rfl, by simp, fun h => by simp at h⟩, rfl, by omega⟩
  · simp [Value.cells] at hcs
    obtain ⟨rfl, rfl, rfl⟩ := hcs
    have hzl : zs.length = c := by simpa using hz
    refine ⟨zs.take n, ?_, by rw [List.length_take]; omega, hl⟩
    refine Kd.C_of_reads (d := (0 : Int)) (h1 := fun _ => rfl) ⟨rfl, by rw [List.length_take]; unfold maxLen at hm; omega, fun _ => ⟨x, rfl, fun j hj => ?_⟩⟩
    have hj' : j < n ∧ j < zs.length := by rw [List.length_take] at hj; omega
    rw [hcell j hj'.2]
    congr 2
    simp [List.getD, hj'.1]
theorem plays_c (A0 A1 : Option Addr) (n0 c0 n1 c1 : Nat) (zs : List Int) (ds : List (Int × Bool)) (w : World) (hZ : (Kd.int .i64).C w A0 zs.length zs) (hz : zs.length = n0) (hc0 : n0 ≤ c0) (hD : DoRow w A1 n1 ds) :
    Calls Try.prog 3 #[.slice A0 n0 c0, .slice A1 n1 c1] w fun e w' => e = .returned (.bool true) ∧ Below w.heap.size w w' := by
  have hl : (zs.take (min n0 10)).length = min n0 10 := by rw [List.length_take]; omega
  have hP := Kd.C_take hZ (m := min n0 10) (by omega)
  have hmin : (if (10 : Int) < (n0 : Int) then (10 : Int) else (n0 : Int)) = ((zs.take (min n0 10)).length : Int) := by rw [hl]; split <;> omega
  by_cases ho : okP (zs.take (min n0 10))
  · exact plays_yes A0 A1 n0 c0 n1 c1 _ ds w hP (by rw [hl]; omega) (by rw [hl]; omega) hmin hc0 ho hD
  · exact plays_no A0 A1 n0 c0 n1 c1 _ ds w hP (by rw [hl]; omega) (by rw [hl]; omega) hmin hc0 ho
end Go.Proofs.Ytcfojkejajanlaa.Base
