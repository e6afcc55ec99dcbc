/- Layer 13: what a slice of calls that came in reads as. -/
import Derived.Test.YtbglagllgppggaaSePlays
import Derived.ProofKit
import Derived.SizedLaws
import Derived.Deep.Slices
set_option linter.unusedVariables false
set_option linter.unusedSimpArgs false
namespace Go.Proofs.Ytbglagllgppggaa.Base
open Go.ChangeShapes Go.WideShapes Go.ChangeAt Go.RowKit Go.Deep Go.Proofs.YtbglagllgppggaaW.PrintWords Go.Proofs.YtbglagllgppggaaW.PrintLast Go.Proofs.YtbglagllgppggaaW.PrintMore

/-- One row of bytes. -/
theorem open_bytes {H : Type} {enc : TypeId × Value → H} {W : World} {fuel : Nat} {v : Value} {y : DataW H × List MemPlace} (hf : DataW.trod enc Try.prog W 0 (fun _ => true) true fuel 31 [v] = some y) :
    ∃ A bs c, v = .slice A bs.length c ∧ bs.length ≤ c ∧ (Kd.int .u8).C W A bs.length bs := by
  rcases open_ints Try.underlying31 Try.underlying5 (by kernel_rfl) hf with ⟨hcs, _⟩ | ⟨x, l, c', zs, hcs, _, hl, hm, hz, hy, hcell, hwz⟩
  · have hv : v = .slice none 0 0 := by simpa using hcs
    exact ⟨none, [], 0, hv, by simp, Kd.C_of_reads (d := (0 : Int)) (h1 := fun _ => rfl) ⟨rfl, by simp, fun h => by simp at h⟩⟩
  · have hv : v = .slice (some x) l c' := by simpa using hcs
    have hzl : zs.length = c' := by simpa using hz
    have htl : (zs.take l).length = l := by rw [List.length_take]; omega
    refine ⟨some x, zs.take l, c', by rw [htl]; exact hv, by omega, ?_⟩
    refine Kd.C_of_reads (d := (0 : Int)) (h1 := fun _ => rfl) ⟨rfl, by rw [htl]; unfold maxLen at hm; omega, fun _ => ⟨x, rfl, fun j hj => ?_⟩⟩
    have hj' : j < l ∧ j < zs.length := by rw [List.length_take] at hj; omega
    rw [hcell j hj'.2]
    congr 2
    simp [List.getD, hj'.1]
theorem open_dos {H : Type} {enc : TypeId × Value → H} {W : World} {a : Option Addr} {n c : Nat} {d : DataW H} {p : List MemPlace} (h : DataW.Trod enc Try.prog W 0 (fun _ => true) true 46 (.slice a n c) d p) :
    ∃ ds : List Do, doK.C W a ds.length ds ∧ ds.length = n ∧ n ≤ c := by
  obtain ⟨fuel, hf⟩ := h
  rcases open_slice Try.underlying46 hf with ⟨hcs, _⟩ | ⟨ad, len, cap, m, k, D, Pl, hcs, _, hl, hm, hmm, hx, hc⟩
  · simp [Value.cells] at hcs
    obtain ⟨rfl, rfl, rfl⟩ := hcs
    exact ⟨[], ⟨rfl, by simp, fun h => by simp at h⟩, rfl, by omega⟩
  · simp [Value.cells] at hcs
    obtain ⟨rfl, rfl, rfl⟩ := hcs
    have hlm : n ≤ m := by rw [hmm]; split <;> omega
    have each : ∀ i, i < n → ∃ x : Do, ∃ cs, cs.length = 3 ∧ doK.K W x cs ∧ ∀ j u, cs[j]? = some u → W.cell? (ad.add (i * 3 + j)) = some u := by
      intro i hi
      obtain ⟨cs', h1, h2⟩ := hc i (by omega)
      have hce : Try.prog.cellsOf 48 = 3 := by kernel_rfl
      rw [hce] at h1
      obtain ⟨_, hlen, hcell⟩ := World.cells?_some h1
      obtain ⟨xs, k', hk, hxy, _, hxl, hfd⟩ := DataW.trod_struct Try.underlying48 h2
      match xs, hxl, cs', hlen with
      | [y0, y1, y2], _, [v0, v1, v2], _ =>
        have g0 := hfd 0 _ rfl
        have g1 := hfd 1 _ rfl
        have g2 := hfd 2 _ rfl
        have c0 : Try.prog.cellsOf 3 = 1 := by kernel_rfl
        have c2 : Try.prog.cellsOf 31 = 1 := by kernel_rfl
        simp [c0, c2] at g0 g1 g2
        obtain ⟨qk, e0, _, _⟩ := DataW.trod_int Try.underlying3 g0
        obtain ⟨qn, e1, _, _⟩ := DataW.trod_int Try.underlying3 g1
        obtain ⟨A, bs, cc, rfl, hbc, hC⟩ := open_bytes g2
        simp at e0 e1
        subst e0 e1
        refine ⟨(qk, qn, bs), [.int .i64 qk, .int .i64 qn, .slice A bs.length cc], rfl, ⟨[.int .i64 qk], [.int .i64 qn, .slice A bs.length cc], rfl, rfl, [.int .i64 qn], [.slice A bs.length cc], rfl, rfl, A, cc, rfl, hbc, hC⟩, fun j u hu => ?_⟩
        have hj : j < 3 := by
          have := (List.getElem?_eq_some_iff.1 hu).1; simpa using this
        have hh := hcell j (by simpa using hj)
        rw [Go.Deep.add_add] at hh
        rw [hh]; exact hu
    obtain ⟨f, hfx⟩ := choose_lt each
    have hfl : ((List.range n).map f).length = n := by simp
    refine ⟨(List.range n).map f, ?_, hfl, hl⟩
    rw [hfl]
    refine ⟨hfl, by unfold maxLen at hm; omega, fun _ => ⟨ad, rfl, fun j p hj => ?_⟩⟩
    have hj' : j < n := by have := (List.getElem?_eq_some_iff.1 hj).1; simpa using this
    have e : p = f j := by
      have := (List.getElem?_eq_some_iff.1 hj).2
      simpa using this.symm
    rw [e]
    exact hfx j hj'
end Go.Proofs.Ytbglagllgppggaa.Base
