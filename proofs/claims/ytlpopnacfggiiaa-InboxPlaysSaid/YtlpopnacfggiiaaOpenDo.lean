/- Layer 14: what a slice of messages that came in reads as. -/
import Derived.Test.YtlpopnacfggiiaaInPlays
import Derived.ProofKit
import Derived.SizedLaws
import Derived.Deep.Slices
set_option linter.unusedVariables false
set_option linter.unusedSimpArgs false
namespace Go.Proofs.Ytlpopnacfggiiaa.Ref
open Go.ChangeShapes Go.WideShapes Go.ChangeAt Go.RowKit Go.Deep Go.Proofs.Ytlpopnacfggiiaa.Base Go.Proofs.YtlpopnacfggiiaaW.PrintWords Go.Proofs.YtlpopnacfggiiaaW.PrintLast Go.Proofs.YtlpopnacfggiiaaW.PrintMore

theorem mem_weightsAll {H : Type} {P : Program} {e : TypeId} {d : DataW H} : ∀ {l : List (DataW H)}, d ∈ l → ∀ x ∈ d.weights P e, x ∈ DataW.weightsAll P e l
  | d0 :: l, hd, x, hx => by
    simp only [DataW.weightsAll, List.mem_append]
    rcases List.mem_cons.1 hd with rfl | hd
    · exact .inl hx
    · exact .inr (mem_weightsAll hd x hx)
/-- One row of bytes. -/
theorem open_bytes {H : Type} {enc : TypeId × Value → H} {W : World} {fuel : Nat} {v : Value} {y : DataW H × List MemPlace} (hf : DataW.trod enc Try.prog W 0 (fun _ => true) true fuel 27 [v] = some y) (hw : ∀ x ∈ y.1.weights Try.prog 27, x ≤ reachBytes) :
    ∃ A bs c, v = .slice A bs.length c ∧ bs.length ≤ c ∧ (Kd.int .u8).C W A bs.length bs ∧ bs.length < 140737488355328 := by
  rcases open_ints Try.underlying27 Try.underlying5 (by kernel_rfl) hf with ⟨hcs, _⟩ | ⟨x, l, c', zs, hcs, _, hl, hm, hz, hy, hcell, hwz⟩
  · have hv : v = .slice none 0 0 := by simpa using hcs
    exact ⟨none, [], 0, hv, by simp, Kd.C_of_reads (d := (0 : Int)) (h1 := fun _ => rfl) ⟨rfl, by simp, fun h => by simp at h⟩, by simp⟩
  · have hv : v = .slice (some x) l c' := by simpa using hcs
    have hzl : zs.length = c' := by simpa using hz
    have htl : (zs.take l).length = l := by rw [List.length_take]; omega
    refine ⟨some x, zs.take l, c', by rw [htl]; exact hv, by omega, ?_, ?_⟩
    · refine Kd.C_of_reads (d := (0 : Int)) (h1 := fun _ => rfl) ⟨rfl, by rw [htl]; unfold maxLen at hm; omega, fun _ => ⟨x, rfl, fun j hj => ?_⟩⟩
      have hj' : j < l ∧ j < zs.length := by rw [List.length_take] at hj; omega
      rw [hcell j hj'.2]
      congr 2
      simp [List.getD, hj'.1]
    · rw [htl]
      have h1 := hw (zs.length * Try.prog.bytesOf 5) (by
        rw [hy]
        simp only [DataW.weights, Try.underlying27]
        refine List.mem_cons.2 (.inl ?_)
        simp [lits]
        congr 1
        omega)
      have h2 : Try.prog.bytesOf 5 = 1 := by kernel_rfl
      have h3 := reachBytes_lt
      rw [h2] at h1
      omega
theorem open_dos {H : Type} {enc : TypeId × Value → H} {W : World} {a : Option Addr} {n c : Nat} {d : DataW H} {p : List MemPlace} (h : DataW.Trod enc Try.prog W 0 (fun _ => true) true 22 (.slice a n c) d p) (hw : ∀ x ∈ d.weights Try.prog 22, x ≤ reachBytes) :
    ∃ ds : List Do, doK.C W a ds.length ds ∧ ds.length = n ∧ n ≤ c ∧ ∀ x ∈ ds, x.2.2.length < 140737488355328 := by
  obtain ⟨fuel, hf⟩ := h
  rcases open_slice Try.underlying22 hf with ⟨hcs, _⟩ | ⟨ad, len, cap, m, k, D, Pl, hcs, _, hl, hm, hmm, hx, hc⟩
  · simp [Value.cells] at hcs
    obtain ⟨rfl, rfl, rfl⟩ := hcs
    exact ⟨[], ⟨rfl, by simp, fun h => by simp at h⟩, rfl, by omega, by simp⟩
  · simp [Value.cells] at hcs
    obtain ⟨rfl, rfl, rfl⟩ := hcs
    have hlm : n ≤ m := by rw [hmm]; split <;> omega
    have hD : d = .slice ((List.range n).map D) ((List.range (m - n)).map fun j => D (n + j)) := (Prod.mk.inj hx).1
    have each : ∀ i, i < n → ∃ x : Do, (∃ cs, cs.length = 3 ∧ doK.K W x cs ∧ ∀ j u, cs[j]? = some u → W.cell? (ad.add (i * 3 + j)) = some u) ∧ x.2.2.length < 140737488355328 := by
      intro i hi
      obtain ⟨cs', h1, h2⟩ := hc i (by omega)
      have hce : Try.prog.cellsOf 32 = 3 := by kernel_rfl
      rw [hce] at h1
      obtain ⟨_, hlen, hcell⟩ := World.cells?_some h1
      obtain ⟨xs, k', hk, hxy, _, hxl, hfd⟩ := DataW.trod_struct Try.underlying32 h2
      match xs, hxl, cs', hlen with
      | [y0, y1, y2], _, [v0, v1, v2], _ =>
        have g0 := hfd 0 _ rfl
        have g1 := hfd 1 _ rfl
        have g2 := hfd 2 _ rfl
        have c0 : Try.prog.cellsOf 3 = 1 := by kernel_rfl
        have c1 : Try.prog.cellsOf 4 = 1 := by kernel_rfl
        have c2 : Try.prog.cellsOf 27 = 1 := by kernel_rfl
        simp [c0, c1, c2] at g0 g1 g2
        obtain ⟨qn, e0, _, _⟩ := DataW.trod_int Try.underlying3 g0
        obtain ⟨qb, e1, _⟩ := DataW.trod_bool Try.underlying4 g1
        have hDi : D i = .agg [y0.1, y1.1, y2.1] := by
          have := (Prod.mk.inj hxy).1; simpa using this
        obtain ⟨A, bs, cc, rfl, hbc, hC, hb⟩ := open_bytes g2 (fun x hx => hw x (by
          rw [hD]
          simp only [DataW.weights, Try.underlying22]
          refine List.mem_cons.2 (.inr (List.mem_append.2 (.inl (mem_weightsAll (d := D i) (List.mem_map.2 ⟨i, List.mem_range.2 hi, rfl⟩) x ?_))))
          rw [hDi]
          simp only [DataW.weights, Try.underlying32]
          exact DataW.weights_mem_each (j := 2) (t := 27) rfl rfl x hx))
        simp at e0 e1
        subst e0 e1
        refine ⟨(qn, qb, bs), ⟨[.int .i64 qn, .bool qb, .slice A bs.length cc], rfl, ⟨[.int .i64 qn], [.bool qb, .slice A bs.length cc], rfl, rfl, [.bool qb], [.slice A bs.length cc], rfl, rfl, A, cc, rfl, hbc, hC⟩, fun j u hu => ?_⟩, hb⟩
        have hj : j < 3 := by
          have := (List.getElem?_eq_some_iff.1 hu).1; simpa using this
        have hh := hcell j (by simpa using hj)
        rw [Go.Deep.add_add] at hh
        rw [hh]; exact hu
    obtain ⟨f, hfx⟩ := choose_lt each
    have hfl : ((List.range n).map f).length = n := by simp
    refine ⟨(List.range n).map f, ?_, hfl, hl, fun x hx => ?_⟩
    · rw [hfl]
      refine ⟨hfl, by unfold maxLen at hm; omega, fun _ => ⟨ad, rfl, fun j p hj => ?_⟩⟩
      have hj' : j < n := by have := (List.getElem?_eq_some_iff.1 hj).1; simpa using this
      have e : p = f j := by
        have := (List.getElem?_eq_some_iff.1 hj).2
        simpa using this.symm
      rw [e]
      exact (hfx j hj').1
    · obtain ⟨j, hj, rfl⟩ := List.mem_map.1 hx
      exact (hfx j (List.mem_range.1 hj)).2
end Go.Proofs.Ytlpopnacfggiiaa.Ref
