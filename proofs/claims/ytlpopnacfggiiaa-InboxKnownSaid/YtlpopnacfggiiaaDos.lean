/- Layer 14: a row of messages that come, as it is read. -/
import Derived.Test.YtlpopnacfggiiaaTwoIn
set_option linter.unusedVariables false
set_option linter.unusedSimpArgs false
namespace Go.Proofs.Ytlpopnacfggiiaa.Ref
open Go.RowKit Go.Proofs.Ytlpopnacfggiiaa.Base Go.Proofs.Ytlpopnacfggiiaa.Byt Go.Proofs.YtlpopnacfggiiaaW.PrintWords Go.Proofs.YtlpopnacfggiiaaW.PrintLast Go.Proofs.YtlpopnacfggiiaaW.PrintMore

/-- A message that comes: a number, whether it is the number itself, bytes. -/
abbrev Do := Int × Bool × List Int
abbrev doK : Kd Do := Kd.pair (Kd.int .i64) (Kd.pair Kd.bool (Kd.slice 5 (Kd.int .u8)))
theorem add_plus (ad : Addr) (n k : Nat) (hk : 0 < k) : ad.add (n + k) = ⟨(ad.add n).block, (ad.add n).off + k, none⟩ := by
  unfold Addr.add
  rw [if_neg (by omega)]
  split
  · rename_i h; subst h; simp
  · simp [Nat.add_assoc]
theorem C_lt {w : World} {A : Option Addr} {n : Nat} {bs : List Int} (h : (Kd.int .u8).C w A n bs) (hp : 0 < n) (ad : Addr) (e : A = some ad) : ad.block < w.heap.size := by
  obtain ⟨ad', e', hcell⟩ := h.2.2 hp
  obtain rfl : ad' = ad := Option.some.inj (e'.symm.trans e)
  have hl := h.1
  obtain ⟨cs, h1, h2, h3⟩ := hcell 0 (bs[0]'(by omega)) (by simp)
  have hu : cs[0]? = some (.int .u8 (bs[0]'(by omega))) := by rw [show cs = [.int .u8 (bs[0]'(by omega))] from h2]; rfl
  have hr := h3 0 _ hu
  have hb : ∀ k, (ad'.add k).block = ad'.block := fun k => by unfold Addr.add; split <;> rfl
  unfold World.cell? at hr
  rw [hb] at hr
  split at hr
  · rename_i hh; exact (Array.getElem?_eq_some_iff.1 hh).1
  · cases hr
theorem IA.only {w w' : World} {g b q : Nat} {nx : Int} {a : List (Option Sl)} (h : Byt.Is w g b nx a) (o : Only q w w') (hg : g ≠ q) (hb : b ≠ q) : Byt.Is w' g b nx a :=
  ⟨(o.block g (Array.getElem?_eq_some_iff.1 h.hg).1 hg).trans h.hg, h.hm.kept (o.block b h.hm.lt hb), h.h0, h.h1, h.hl⟩
theorem kdCell {w : World} {A : Option Addr} {xs : List Sl} (h : kd.C w A xs.length xs) (h0 : 0 < xs.length) : ∃ ad, A = some ad ∧ ∀ i (hi : i < xs.length), w.cell? (ad.add i) = some (enc xs[i]) := by
  obtain ⟨ad, e, hcell⟩ := h.2.2 h0
  refine ⟨ad, e, fun i hi => ?_⟩
  obtain ⟨cs, h1, h2, h3⟩ := hcell i xs[i] (by simp [hi])
  have h2' : cs = [enc xs[i]] := h2
  have := h3 0 (enc xs[i]) (by rw [h2']; rfl)
  have e1 : i * kd.sz + 0 = i := by show i * 1 + 0 = i; omega
  rwa [e1] at this
theorem doCell {w : World} {A : Option Addr} {ds : List Do} (h : doK.C w A ds.length ds) (i : Nat) (hi : i < ds.length) : ∃ ad A' c', A = some ad ∧ w.cell? (ad.add (i * 3)) = some (.int .i64 ds[i].1) ∧
    w.cell? ⟨(ad.add (i * 3)).block, (ad.add (i * 3)).off + 1, none⟩ = some (.bool ds[i].2.1) ∧ w.cell? ⟨(ad.add (i * 3)).block, (ad.add (i * 3)).off + 2, none⟩ = some (.slice A' ds[i].2.2.length c') ∧ At w ⟨A', ds[i].2.2.length, c'⟩ ds[i].2.2 := by
  obtain ⟨ad, c, rfl, hcl, hk, hcc⟩ := Kd.C_get h (0, false, []) (i : Int) (by omega) (by omega)
  have e : ds.getD ((i : Int).toNat) (0, false, []) = ds[i] := by simp [List.getD, hi]
  rw [e] at hk
  obtain ⟨c0, c1, rfl, h0, c2, c3, rfl, h1, A', c', h2, hlc, hC⟩ := hk
  have h0' : c0 = [.int .i64 ds[i].1] := h0
  have h1' : c2 = [.bool ds[i].2.1] := h1
  subst h0' h1' h2
  have hsz : doK.sz = 3 := rfl
  rw [hsz] at hcc
  refine ⟨ad, A', c', rfl, ?_, ?_, ?_, ⟨rfl, hlc, hC⟩⟩
  · simpa using hcc 0 _ rfl
  · have := hcc 1 _ rfl
    rwa [add_plus _ _ 1 (by omega), show (i : Int).toNat = i from by simp] at this
  · have := hcc 2 _ rfl
    rwa [add_plus _ _ 2 (by omega), show (i : Int).toNat = i from by simp] at this
end Go.Proofs.Ytlpopnacfggiiaa.Ref
