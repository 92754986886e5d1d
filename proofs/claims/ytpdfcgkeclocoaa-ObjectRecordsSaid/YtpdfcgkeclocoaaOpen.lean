/- What came in, as my own kinds. -/
import Derived.Test.YtpdfcgkeclocoaaWords
import Derived.WalkKit
import Derived.ProofKit
import Derived.Lib.SmallJoins
set_option linter.all false
namespace Go.Proofs.Ytpdfcgkeclocoaa
open Go.RowKit Go.ChangeShapes Go.WideShapes Go.ChangeAt

theorem cell_lt_ {w : World} {a : Addr} {v : Value} (h : w.cell? a = some v) : a.block < w.heap.size := by
  rcases Nat.lt_or_ge a.block w.heap.size with h' | h'
  · exact h'
  · simp [World.cell?, Array.getElem?_eq_none h'] at h
theorem byte_back {n : Int} (h : (Lit.int .u8 n).wf = true) : ((UInt8.ofNat n.toNat).toNat : Int) = n := by
  have h : 0 ≤ n ∧ n ≤ 255 := by
    simp [Lit.wf, IntKind.min, IntKind.max, IntKind.signed, IntKind.bits] at h
    omega
  rw [UInt8.toNat_ofNat_of_lt' (by show _ < 256; omega)]
  omega
theorem isInt_of {n : Int} (h : (Lit.int .i64 n).wf = true) : IsInt n := by
  simp [Lit.wf, IntKind.min, IntKind.max, IntKind.signed, IntKind.bits] at h
  unfold IsInt
  omega
theorem open_bytes {P : Program} {H : Type} {enc : TypeId × Value → H} {W : World} {base : Nat} {sp : Nat → Bool} {held : Bool} {fuel : Nat} {t e : TypeId} {x : DataW H × List MemPlace} (ht : P.underlying t = some (.slice e)) (he : P.underlying e = some (.int .u8)) (hc : P.cellsOf e = 1)
    {A : Option Addr} {len cap : Nat} (hf : DataW.trod enc P W base sp held fuel t [.slice A len cap] = some x) (hlen : len ≤ 4000) : ∃ d, d.length = len ∧ KBs.R noB W [.slice A len cap] d := by
  rcases open_ints ht he hc hf with ⟨hcs, _⟩ | ⟨a, l, c, zs, hcs, _, hl, hm, hz, _, hcell, hwz⟩
  · injection hcs with hcs _
    injection hcs with e1 e2 e3
    subst e1 e2 e3
    exact ⟨[], rfl, KSl.nil⟩
  · injection hcs with hcs _
    injection hcs with e1 e2 e3
    subst e1 e2 e3
    have hzl : len ≤ zs.length := by rw [hz]; split <;> omega
    have hdl : ((zs.take len).map fun n => UInt8.ofNat n.toNat).length = len := by rw [List.length_map, List.length_take]; omega
    refine ⟨(zs.take len).map fun n => UInt8.ofNat n.toNat, hdl, ?_⟩
    have := KSl.mk (bytes := 1) (K := KByte) (M := noB) (w := W) (A := some a) (c := cap) (l := (zs.take len).map fun n => UInt8.ofNat n.toNat) (by omega) (by simp only [maxLen] at hm; omega) (by omega) (fun e => by cases e) (fun hp => by
      have h0 := hcell 0 (by omega)
      have hb := cell_lt_ h0
      rw [add_block] at hb
      refine ⟨a, rfl, hb, fun h => h, fun j hj => ⟨[encB (((zs.take len).map fun n => UInt8.ofNat n.toNat)[j])], ⟨rfl, trivial⟩, fun i u hu => ?_⟩⟩
      have hi : i = 0 := by
        have := (List.getElem?_eq_some_iff.1 hu).1
        simp at this; omega
      subst hi
      simp only [List.getElem?_cons_zero, Option.some.injEq] at hu
      subst hu
      have hjl : j < len := by omega
      have e0 : (a.add (j * KByte.size)).add 0 = a.add j := by
        show (a.add (j * 1)).add 0 = a.add j
        rw [Nat.mul_one]; unfold Addr.add; split <;> simp_all
      rw [e0, hcell j (by omega), List.getElem_map, List.getElem_take]
      have hg : zs.getD j 0 = zs[j]'(by omega) := by rw [List.getD_eq_getElem?_getD, List.getElem?_eq_getElem (by omega)]; rfl
      rw [hg]
      unfold encB
      rw [byte_back (hwz _ (List.getElem_mem _))])
    rw [hdl] at this
    exact this
end Go.Proofs.Ytpdfcgkeclocoaa
