/- Layer 13: a row of calls, as it is read; both senders made. -/
import Derived.Test.YtbglagllgppggaaStep
set_option linter.unusedVariables false
set_option linter.unusedSimpArgs false
namespace Go.Proofs.Ytbglagllgppggaa.Base
open Go.RowKit Go.Proofs.YtbglagllgppggaaW.PrintWords Go.Proofs.YtbglagllgppggaaW.PrintLast Go.Proofs.YtbglagllgppggaaW.PrintMore
open Go.Proofs.Ytbglagllgppggaa.Comm Go.Proofs.Ytbglagllgppggaa.PSenderPlays

/-- A call: which one, a number, bytes. -/
abbrev Do := Int × Int × List Int
abbrev doK : Kd Do := Kd.pair (Kd.int .i64) (Kd.pair (Kd.int .i64) (Kd.slice 5 (Kd.int .u8)))
theorem add_plus (ad : Addr) (n k : Nat) (hk : 0 < k) : ad.add (n + k) = ⟨(ad.add n).block, (ad.add n).off + k, none⟩ := by
  unfold Addr.add
  rw [if_neg (by omega)]
  split
  · rename_i h; subst h; simp
  · simp [Nat.add_assoc]
theorem doCell {w : World} {A : Option Addr} {ds : List Do} (h : doK.C w A ds.length ds) (i : Nat) (hi : i < ds.length) : ∃ ad A' c', A = some ad ∧ w.cell? (ad.add (i * 3)) = some (.int .i64 ds[i].1) ∧
    w.cell? ⟨(ad.add (i * 3)).block, (ad.add (i * 3)).off + 1, none⟩ = some (.int .i64 ds[i].2.1) ∧ w.cell? ⟨(ad.add (i * 3)).block, (ad.add (i * 3)).off + 2, none⟩ = some (.slice A' ds[i].2.2.length c') ∧ ds[i].2.2.length ≤ c' ∧ (Kd.int .u8).C w A' ds[i].2.2.length ds[i].2.2 := by
  obtain ⟨ad, c, rfl, hcl, hk, hcc⟩ := Kd.C_get h (0, 0, []) (i : Int) (by omega) (by omega)
  have e : ds.getD ((i : Int).toNat) (0, 0, []) = ds[i] := by simp [List.getD, hi]
  rw [e] at hk
  obtain ⟨c0, c1, rfl, h0, c2, c3, rfl, h1, A', c', h2, hlc, hC⟩ := hk
  have h0' : c0 = [.int .i64 ds[i].1] := h0
  have h1' : c2 = [.int .i64 ds[i].2.1] := h1
  subst h0' h1' h2
  have hsz : doK.sz = 3 := rfl
  rw [hsz] at hcc
  refine ⟨ad, A', c', rfl, ?_, ?_, ?_, hlc, hC⟩
  · simpa using hcc 0 _ rfl
  · have := hcc 1 _ rfl
    rwa [add_plus _ _ 1 (by omega), show (i : Int).toNat = i from by simp] at this
  · have := hcc 2 _ rfl
    rwa [add_plus _ _ 2 (by omega), show (i : Int).toNat = i from by simp] at this
/-- Both senders just made. -/
theorem J.made {w0 w1 w2 : World} {g ch r W : Nat} {nx : Int} (hs : SA w0.heap.size (fun _ => False) w1 g ch W nx [] 0 0) (hb : Below w0.heap.size w0 w1) (hr : RA w0.heap.size (fun _ => False) w2 r W nx [] 0 0) (hb2 : Below w1.heap.size w1 w2) (hrn : w1.heap.size ≤ r) : J w0 (fun _ => True) w2 g ch r W nx [] 0 0 nx [] 0 0 :=
  ⟨fun _ => False, fun _ => False, { hs := hs.below hb2, hr := hr, mn := fun _ h => h.elim, mr := fun h => h, ng := fun h => h, nc := fun h => h, rg := by have := hs.glt; omega, rc := by have := hs.clt; omega, mU := fun _ _ => trivial, nU := fun _ _ => trivial, gU := trivial, cU := trivial, rU := trivial, hb := hb.trans (hb2.mono hb.size) }⟩
end Go.Proofs.Ytbglagllgppggaa.Base
