/- The walk of fountainlaw13.alive. -/
import Derived.Test.YtpdfcgkeclocoaaSame
import Derived.Test.YtpdfcgkeclocoaaMint
import Derived.Lib.SlBytesConst
set_option linter.all false
namespace Go.Proofs.Ytpdfcgkeclocoaa
open Go.RowKit GF
attribute [local go_sem ↓] Go.wp_at_zero Go.wp_at_succ

theorem newObj_sh {s : Shp} {d : List UInt8} {o : ObjD} (h : newObj s d = .ok o) : o.sh = s := by
  unfold newObj at h
  cases hg : objGo s.z (cutS s d) (blkN s) with
  | error q' => rw [hg] at h; cases h
  | ok bs =>
    rw [hg] at h
    injection h with h
    rw [← h]
theorem KBs.marked (w : World) (t : TypeId) (l : List UInt8) (fr : Nat × Nat) (hl : l.length ≤ 1000) : KBs.R noB (w.alloc (.cells (l.map encB).toArray t fr)) [.slice (some ⟨w.heap.size, 0, none⟩) l.length l.length] l := by
  refine KSl.mk (by omega) (by omega) (by omega) (fun e => by cases e) fun hp => ⟨_, rfl, by simp, fun h => h, fun j hj => ⟨[encB l[j]], ⟨rfl, trivial⟩, fun i u hu => ?_⟩⟩
  have hi : i = 0 := by
    have := (List.getElem?_eq_some_iff.1 hu).1
    simp at this; omega
  subst hi
  simp only [List.getElem?_cons_zero, Option.some.injEq] at hu
  subst hu
  have e : ((⟨w.heap.size, 0, none⟩ : Addr).add (j * KByte.size)).add 0 = ⟨w.heap.size, j, none⟩ := by
    simp [Addr.add, KByte, KFlat]
    exact fun h => h.symm
  rw [e, World.cell?_alloc_mark, List.getElem?_toArray, List.getElem?_map, List.getElem?_eq_getElem hj]
  rfl
def s0 : Shp := ⟨3, 2, 2⟩
theorem s0_ok : s0.Ok := ⟨by decide, by decide, by decide, by decide, by decide, by decide⟩
theorem live13_fact : ∃ o, newObj s0 [97, 98, 99] = .ok o ∧ decodeO s0 (recsO o 0 0 1 5) = .ok [97, 98, 99] ∧ (recsO o 0 0 1 5).length ≤ 100000 := by
  have h : (match newObj s0 [97, 98, 99] with | .ok o => (match decodeO s0 (recsO o 0 0 1 5) with | .ok d => d == [97, 98, 99] | .error _ => false) && decide ((recsO o 0 0 1 5).length ≤ 100000) | .error _ => false) = true := by decide +kernel
  cases hn : newObj s0 [97, 98, 99] with
  | error q => rw [hn] at h; cases h
  | ok o =>
    rw [hn] at h
    simp only [Bool.and_eq_true, decide_eq_true_eq] at h
    refine ⟨o, rfl, ?_, h.2⟩
    have h := h.1
    cases hd : decodeO s0 (recsO o 0 0 1 5) with
    | error q => rw [hd] at h; cases h
    | ok d =>
      rw [hd] at h
      simp only [beq_iff_eq] at h
      rw [h]
theorem dead13_fact : decodeO s0 [] = .error 4 := by
  have h : (match decodeO s0 [] with | .error q => q | .ok _ => 0) = 4 := by decide +kernel
  cases hc : decodeO s0 [] with
  | ok r => rw [hc] at h; simp at h
  | error q => rw [hc] at h; rw [← h]
set_option maxHeartbeats 1000000 in
set_option maxRecDepth 100000 in
theorem alive13_any (w : World) : Calls Try.prog 17 #[] w fun e w' => e = .returned (.bool true) ∧ Below w.heap.size w w' := by
  have hcv := fun (w : World) (C : Array Value) (n c : Nat) => Lib.run_convert_bytes_const (P := Try.prog) w 37 5 C n c Try.underlying37 Try.underlying5
  obtain ⟨o, ho, hd, hrl⟩ := live13_fact
  have hde := fun (W : World) => decode_any s0 s0_ok (.slice none 0 0) [] W KSl.nil (by simp)
  rw [dead13_fact] at hde
  have hnw := fun (v : Value) (W : World) (hW : KBs.R noB W [v] [97, 98, 99]) => newObj_any s0 s0_ok v [97, 98, 99] W hW rfl
  rw [ho] at hnw
  have hbl := newObj_blocks ho
  have hsh := newObj_sh ho
  have hi0 : IsInt 0 := by unfold IsInt; omega
  have hi5 : IsInt 5 := by unfold IsInt; omega
  have hrc := fun (v : Value) (W : World) (hW : KObjP.R noB W [v] o) => recs_any v o 0 0 1 5 W hW hi0 hi0 hi5 (by rw [hbl]; decide)
  have hdl := fun (v : Value) (W : World) (hW : KRecs.R noB W [v] (recsO o 0 0 1 5)) => decode_any s0 s0_ok v (recsO o 0 0 1 5) W hW hrl
  rw [hd] at hdl
  generalize recsO o 0 0 1 5 = rs at *
  have e3 : (s0.b : Int) = 3 := rfl
  have e2 : (s0.z : Int) = 2 := rfl
  have e1 : (s0.m : Int) = 2 := rfl
  rw [e1, e2, e3] at hde hdl hnw
  have HSH : Hid (o.sh = s0) := hsh
  have hx := Blk.new w 32 [.int .i64 3, .int .i64 2, .int .i64 2]
  have hbx : Below w.heap.size w (w.alloc (.cells #[.int .i64 3, .int .i64 2, .int .i64 2] 32)) := below_one w _
  clear ho hd e1 e2 e3 hbl hsh hi0 hi5
  go_enter Try.func17, Try.ntmps17
  go_upto_region 2 with fail
  generalize w.alloc (.cells #[.int .i64 3, .int .i64 2, .int .i64 2] 32) = wx at *
  have c0 := hx.cell 0
  have c1 := hx.cell 1
  have c2 := hx.cell 2
  simp only [List.getElem?_cons_zero, List.getElem?_cons_succ] at c0 c1 c2
  have hltx := hx.lt
  go_wp2_with fail
  refine (hde _).mono ?_
  rintro e w1 hr1
  obtain ⟨rfl, hb1⟩ := hr1.no_
  have hx1 := hx.below hb1
  have hbw1 := hbx.trans (hb1.mono hbx.size)
  have d0 := hx1.cell 0
  have d1 := hx1.cell 1
  have d2 := hx1.cell 2
  simp only [List.getElem?_cons_zero, List.getElem?_cons_succ] at d0 d1 d2
  have hlt1 := hx1.lt
  have hby : KBs.R noB (w1.alloc (.cells #[.int .u8 97, .int .u8 98, .int .u8 99] 5 (3, 4))) [.slice (some ⟨w1.heap.size, 0, none⟩) 3 3] [97, 98, 99] := KBs.marked w1 5 [97, 98, 99] (3, 4) (by decide)
  have hby1 := below_one w1 (.cells #[.int .u8 97, .int .u8 98, .int .u8 99] 5 (3, 4))
  have hn1 := hnw _ _ hby
  have hbw2 := hbw1.trans (hby1.mono hbw1.size)
  have hx2 := hx1.below hby1
  clear hr1 hde hnw hby c0 c1 c2 hx hb1 hbx
  go_wp2_with fail
  generalize w1.alloc (.cells #[.int .u8 97, .int .u8 98, .int .u8 99] 5 (3, 4)) = w2 at *
  refine hn1.mono ?_
  rintro e w3 hr3
  obtain ⟨v3, rfl, hb3, hv3⟩ := hr3.ok_
  have hro := hrc v3
  obtain ⟨g, u, rfl, hg1, hg2, hu, hok, hc0, hc1, hc2, hc3⟩ := KObjP.val hv3
  rw [HSH.out] at hc0 hc1 hc2
  have e3 : (s0.b : Int) = 3 := rfl
  rw [e3] at hc0
  have hx3 := hx2.below hb3
  have hbw3 := hbw2.trans (hb3.mono hbw2.size)
  have f0 := hx3.cell 0
  have f1 := hx3.cell 1
  have f2 := hx3.cell 2
  simp only [List.getElem?_cons_zero, List.getElem?_cons_succ] at f0 f1 f2
  have hlt3 := hx3.lt
  have hrk := fun W (hW : Below w3.heap.size w3 W) => hro W (Kd.drop (Kd.below hv3 hW))
  clear e3 hn1 hr3 hrc hro d0 d1 d2 hx1 hx2 hv3 hby1 hb3
  go_wp2_with fail
  refine (num13_any _ _).mono ?_
  rintro e w4 ⟨rfl, rfl⟩
  go_wp2_with fail
  refine (num13_any _ _).mono ?_
  rintro e w4 ⟨rfl, rfl⟩
  go_upto_region 6 with fail
  refine wp_region_plan2 [0, 1, 2] [0] [3, 4] [] [5, 6, 7, 8, 9] (fun w' => w'.cell? ⟨w.heap.size, 0, none⟩ = some (.int .i64 3) ∧ w'.cell? ⟨w.heap.size, 1, none⟩ = some (.int .i64 2) ∧ w'.cell? ⟨w.heap.size, 2, none⟩ = some (.int .i64 2)) (by kernel_rfl) (by kernel_rfl) (fun _ _ _ _ _ h => h) ⟨f0, f1, f2⟩ ?_
  simp only [List.map_cons, List.map_nil, opAt, List.getD_cons_zero, List.getD_cons_succ, List.contains_cons, List.contains_nil, Nat.reduceBEq, Bool.or_false, Bool.or_true]
  apply front_hot
  · intro w9 hS
    obtain ⟨hS0, hS1, hS2⟩ := hS
    go_simp
    with_reducible rfl
  go_simp
  iterate 2
    apply front_cons
    · intro w9
      go_simp
      with_reducible rfl
    go_simp
  refine front_nil ?_
  refine etail_cons (fun K hK => ?_)
  go_simp
  refine (hrk _ (Below.refl _ _).drew).mono ?_
  rintro e w5 ⟨v5, rfl, ho5, hb5⟩
  have hb5' : Below w3.heap.size w3 w5 := (Below.refl _ _).drew.trans hb5
  have hl5 := ho5.sl (bytes := 96) (M' := noB) (by omega) (fun _ _ h => h.elim) (fun _ _ h => h)
  refine hK _ _ (fun _ => ⟨cell_below hb5' _ _ f0, cell_below hb5' _ _ f1, cell_below hb5' _ _ f2⟩) ?_
  clear hK K
  go_simp
  refine etail_cons (fun K hK => ?_)
  go_simp
  refine (hdl v5 w5 hl5).mono ?_
  rintro e w6 hr6
  obtain ⟨v6, rfl, hb6, hv6⟩ := hr6.ok_
  have hb6' := hb5'.trans (hb6.mono hb5'.size)
  refine hK _ _ (fun _ => ⟨cell_below hb6' _ _ f0, cell_below hb6' _ _ f1, cell_below hb6' _ _ f2⟩) ?_
  clear hK K
  go_simp
  refine etail_nil ?_
  iterate 5
    apply front_cons
    · intro w9
      go_simp
      with_reducible rfl
    go_simp
  refine front_nil ?_
  have hbw6 := hbw3.trans (hb6'.mono hbw3.size)
  obtain ⟨A6, c6, rfl, -⟩ := KSl.val hv6
  have hst := KBs.str hv6
  have el : ([97, 98, 99] : List UInt8).length = 3 := rfl
  rw [el] at hst
  rw [el]
  clear hdl hrk hl5 ho5 hr6 hv6
  go_wp2_with fail
  refine (num13_any _ _).mono ?_
  rintro e w7 ⟨rfl, rfl⟩
  go_wp2
  go_ret
  exact ⟨rfl, hbw6⟩
end Go.Proofs.Ytpdfcgkeclocoaa
