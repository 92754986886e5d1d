/- The walks of block.New, Symbol. -/
import Derived.Test.YtpdfcgkeclocoaaBParts
import Derived.Test.YtpdfcgkeclocoaaDrop
import Derived.Outline
set_option linter.all false
namespace Go.Proofs.Ytpdfcgkeclocoaa
open Go.RowKit GF
attribute [local go_sem ↓] Go.wp_at_zero Go.wp_at_succ

def newV (k size : Nat) (f : Option Nat) (pp : Nat → Except Nat (List Row)) : Except Nat BlockD := match f with
  | none => .error 5
  | some j => match pp j with
    | .error q => .error q
    | .ok c => .ok ⟨k, j, size, c⟩
def newBlock (size : Nat) (src : List Row) : Except Nat BlockD := newV src.length size (findJ src.length) fun j => partsP src.length j size (List.range src.length) src
theorem solveP_length {n z : Nat} {ms ds c : List Row} (h : solveP n z ms ds = .ok c) : c.length = n := by
  unfold solveP at h
  split at h
  · cases h
  · rename_i h1
    split at h
    · cases h
    · injection h with h
      have := red_false_le (prep_wf n z ms ds) h1
      rw [← h, List.length_map, List.length_take, red_length]
      omega

theorem solveP_err {n z : Nat} {ms ds : List Row} {q : Nat} (h : solveP n z ms ds = .error q) : q = 4 := by
  unfold solveP at h
  split at h
  · injection h with h; exact h.symm
  · split at h
    · injection h with h; exact h.symm
    · cases h
/-- The closure of New: is a row not of the size? -/
theorem wrongsize_any (v : Value) (r : Row) (size gb : Nat) (w : World) (h : KBs.R noB w [v] r) (hb : w.cell? ⟨gb, 0, none⟩ = some (.int .i64 size)) (hr : r.length = size) :
    Calls Try.prog 144 #[v, .pointer (some ⟨gb, 0, none⟩)] w fun e w' => e = .returned (.bool false) ∧ w = w' := by
  obtain ⟨A, cp, rfl, _⟩ := KSl.val h
  have hne : ((r.length : Int) != (size : Int)) = false := by rw [bne_eq_false_iff_eq]; omega
  clear hr
  go_enter Try.func144, Try.ntmps144
  go_wp2
  go_ret
  exact ⟨rfl, rfl⟩
theorem anyTo_false {p : Nat → Bool} {n : Nat} (h : ∀ i, i < n → p i = false) : anyTo p n = false := by
  cases hb : anyTo p n with
  | false => rfl
  | true =>
    obtain ⟨i, hi, h1⟩ := (anyTo_iff p n).1 hb
    rw [h i hi] at h1; cases h1
theorem sizes_any (v : Value) (rs : List Row) (size gb : Nat) (w : World) (h : KRows.R noB w [v] rs) (hb : w.cell? ⟨gb, 0, none⟩ = some (.int .i64 size)) (hr : ∀ r ∈ rs, r.length = size) :
    Calls Try.prog 138 #[v, .func (.func 144) #[] #[.pointer (some ⟨gb, 0, none⟩)]] w fun e w' => e = .returned (.bool false) ∧ Below w.heap.size w w' := by
  obtain ⟨A, c, rfl, hlc, hc, _, _, h5⟩ := KSl.val h
  have hgv : ∀ i (hi : i < rs.length), ∃ u, ∀ ad, A = some ad → w.cell? (ad.add i) = some u ∧ KBs.R noB w [u] rs[i] := fun i hi => by
    obtain ⟨ad, u, e, h1, h2⟩ := KRows.at_ h hi
    exact ⟨u, fun ad' e' => by rw [e] at e'; rw [← Option.some.inj e']; exact ⟨h1, h2⟩⟩
  have := contains_row 144 #[.pointer (some ⟨gb, 0, none⟩)] (enters_of Try.func144 (by kernel_rfl) rfl) A rs.length c (by omega) (fun i => if hi : i < rs.length then (hgv i hi).choose else undef) (fun _ => false) w (fun hp => by
    obtain ⟨ad, e, _⟩ := h5 hp
    refine ⟨ad, e, fun j hj => ?_⟩
    simp only [hj, dif_pos]
    exact ((hgv j hj).choose_spec ad e).1) (fun i hi W hW => by
    obtain ⟨ad, e, _⟩ := h5 (by omega)
    simp only [hi, dif_pos]
    have hs := ((hgv i hi).choose_spec ad e).2
    refine (wrongsize_any _ rs[i] size gb W (Kd.below hs hW) (cell_below hW _ _ hb) (hr _ (List.getElem_mem hi))).mono ?_
    rintro e w' ⟨rfl, rfl⟩
    exact ⟨rfl, Below.refl _ _⟩)
  rwa [anyTo_false (fun _ _ => rfl)] at this

set_option maxRecDepth 100000 in
set_option maxHeartbeats 1000000 in
theorem newBlock_any (size : Nat) (hz1 : 1 ≤ size) (hz2 : size ≤ 64) (v : Value) (src : List Row) (h1 : 1 ≤ src.length) (h2 : src.length ≤ 40) (hs : ∀ r ∈ src, r.length = size) (w : World) (h : KRows.R noB w [v] src) :
    Calls Try.prog 81 #[.int .i64 size, v] w (RetE KBlockP (.pointer none) w (newBlock size src)) := by
  have hof := params_of_yes src.length h1 h2
  have hfind := find_yes src.length h1 h2
  have hsrc := sources_any src.length h2
  have hfe : findE src.length = findV (findJ src.length) := rfl
  have hnb : newBlock size src = newV src.length size (findJ src.length) fun j => partsP src.length j size (List.range src.length) src := rfl
  have hparts := fun (j : Nat) (hj : j ≤ 255) (ve : Value) (W : World) (he : (KSl 8 KNat).R noB W [ve] (List.range src.length)) (hd : KRows.R noB W [v] src) => bparts_any src.length j size h1 h2 hj hz1 hz2 ve v (List.range src.length) src W he hd (by simp) (fun x hx => by simp at hx; omega) (by simp; omega)
  have hpl : ∀ j c, partsP src.length j size (List.range src.length) src = .ok c → c.length = Lk src.length := fun j c h => solveP_length h
  have hpe : ∀ j q, partsP src.length j size (List.range src.length) src = .error q → q = 4 := fun j q h => solveP_err h
  have hsz := fun (gb : Nat) (W : World) (hW : KRows.R noB W [v] src) (hb : W.cell? ⟨gb, 0, none⟩ = some (.int .i64 size)) => sizes_any v src size gb W hW hb hs
  have hjl : ∀ j, findJ src.length = some j → j ≤ 255 := fun j h => findJ_le h
  have z1 : decide ((size : Int) < 1) = false := by simp; omega
  have z2 : decide ((64 : Int) < (size : Int)) = false := by simp; omega
  obtain ⟨A, cp, rfl, -⟩ := KSl.val h
  generalize newBlock size src = out at *
  generalize partsP src.length = pp at *
  generalize findJ src.length = fj at *
  generalize findE src.length = fe at *
  have HE : Hid (fe = findV fj) := hfe
  have HJL : Hid (∀ j, fj = some j → j ≤ 255) := hjl
  have HL : Hid (∀ r ∈ src, r.length = size) := hs
  clear hfe hs hjl
  generalize hk : src.length = k at *
  have HK : Hid (src.length = k) := hk
  have HNB : Hid (out = newV k size fj fun j => pp j size (List.range k) src) := hnb
  clear hk hnb
  go_enter Try.func81, Try.ntmps81
  go_wp2_with fail
  refine (hof _).mono ?_
  rintro e w1 ⟨rfl, hb1⟩
  clear hof
  have hxs : Blk w1 w.heap.size 3 [.int .i64 size] := (Blk.new w _ _).below (hb1.mono (Nat.le_refl _))
  have hb01 : Below w.heap.size w w1 := (below_one w _).trans (hb1.mono (by simp))
  have hsz1 := hb1.size
  have hlt1 := hxs.lt
  have hx := Blk.new w1 155 [.int .i64 k, .int .i64 (Sk k : Nat), .int .i64 2]
  have hbx : Below w.heap.size w (w1.alloc (.cells #[.int .i64 k, .int .i64 (Sk k : Nat), .int .i64 2] 155)) := hb01.alloc (by omega) _
  have hxsx := hxs.below (below_one w1 (.cells #[.int .i64 k, .int .i64 (Sk k : Nat), .int .i64 2] 155))
  have hcz := hxs.cell 0
  simp only [List.getElem?_cons_zero] at hcz
  go_upto_region 4 with fail
  generalize hwa : w1.alloc (.cells #[.int .i64 k, .int .i64 (Sk k : Nat), .int .i64 2] 155) = wa at *
  have hsza : w1.heap.size < wa.heap.size := by rw [← hwa]; simp
  clear hwa hcz
  have hcz := hxsx.cell 0
  have hc0 := hx.cell 0
  have hc1 := hx.cell 1
  have hc2 := hx.cell 2
  simp only [List.getElem?_cons_zero, List.getElem?_cons_succ] at hc0 hc1 hc2 hcz
  have hwz := hsz w.heap.size wa (Kd.below h hbx) hcz
  clear hsz hxs hxsx
  go_wp2_with fail
  refine hwz.mono ?_
  rintro e w2 ⟨rfl, hb2⟩
  have hb02 : Below w.heap.size w w2 := hbx.trans (hb2.mono hbx.size)
  have hx2 := hx.below hb2
  have hcz2 := cell_below hb2 _ _ hcz
  have hd0 := cell_below hb2 _ _ hc0
  have hd1 := cell_below hb2 _ _ hc1
  have hd2 := cell_below hb2 _ _ hc2
  have hsz2 := hb2.size
  clear hwz hcz hc0 hc1 hc2 hx
  go_wp2_with fail
  refine (hfind _).mono ?_
  rintro e w3 ⟨rfl, hb3⟩
  have hb03 : Below w.heap.size w w3 := hb02.trans (hb3.mono hb02.size)
  have hx3 := hx2.below hb3
  have hcz3 := cell_below hb3 _ _ hcz2
  have he0 := cell_below hb3 _ _ hd0
  have he1 := cell_below hb3 _ _ hd1
  have he2 := cell_below hb3 _ _ hd2
  have hsz3 := hb3.size
  clear hfind hcz2 hd0 hd1 hd2 hx2
  cases fj with
  | none =>
    have HE2 : Hid (fe = ((0 : Int), 5)) := HE.out
    have HN : Hid (out = .error 5) := HNB.out
    clear HNB HE
    obtain ⟨fe1, fe2⟩ := fe
    have e1 : fe1 = 0 := congrArg Prod.fst HE2.out
    have e2 : fe2 = 5 := congrArg Prod.snd HE2.out
    subst e1 e2
    clear HE2
    simp only
    go_wp2
    go_ret2
    rw [HN.out]
    exact RetE.err_ hb03
  | some j =>
    have HE2 : Hid (fe = ((j : Int), 0)) := HE.out
    obtain ⟨fe1, fe2⟩ := fe
    have e1 : fe1 = j := congrArg Prod.fst HE2.out
    have e2 : fe2 = 0 := congrArg Prod.snd HE2.out
    subst e1 e2
    have hj := HJL.out j rfl
    clear HE2 HE HJL
    simp only
    have hpj := hparts j hj
    have hplj := hpl j
    have hpej := hpe j
    clear hparts hpl hpe
    go_upto_region 9 with fail
    refine wp_region_plan2 [0, 1, 2, 3, 4, 6] [0, 2, 4] [5, 7] [] [8, 9, 10, 11, 12] (fun w' => w'.cell? ⟨w1.heap.size, 0, none⟩ = some (.int .i64 k) ∧ w'.cell? ⟨w1.heap.size, 1, none⟩ = some (.int .i64 (Sk k : Nat)) ∧ w'.cell? ⟨w1.heap.size, 2, none⟩ = some (.int .i64 2) ∧ w'.cell? ⟨w.heap.size, 0, none⟩ = some (.int .i64 size)) (by kernel_rfl) (by kernel_rfl) (fun _ _ _ _ _ h => h) ⟨he0, he1, he2, hcz3⟩ ?_
    simp only [List.map_cons, List.map_nil, opAt, List.getD_cons_zero, List.getD_cons_succ, List.contains_cons, List.contains_nil, Nat.reduceBEq, Bool.or_false, Bool.or_true]
    apply front_hot
    · intro w9 hS
      obtain ⟨hS0, hS1, hS2, hS3⟩ := hS
      go_simp
      with_reducible rfl
    go_simp
    apply front_cons
    · intro w9
      go_simp
      with_reducible rfl
    go_simp
    apply front_hot
    · intro w9 hS
      obtain ⟨hS0, hS1, hS2, hS3⟩ := hS
      go_simp
      with_reducible rfl
    go_simp
    apply front_cons
    · intro w9
      go_simp
      with_reducible rfl
    go_simp
    apply front_hot
    · intro w9 hS
      obtain ⟨hS0, hS1, hS2, hS3⟩ := hS
      go_simp
      with_reducible rfl
    go_simp
    apply front_cons
    · intro w9
      go_simp
      with_reducible rfl
    go_simp
    refine front_nil ?_
    refine etail_cons (fun K hK => ?_)
    go_simp
    refine (hsrc _).mono ?_
    rintro e w4 ⟨v4, rfl, ho4, hb4⟩
    have hb4' : Below w3.heap.size w3 w4 := (Below.refl _ _).drew.trans hb4
    have hsz4 := hb4'.size
    have hl4 := ho4.sl (bytes := 8) (M' := noB) (by simp; omega) (fun _ _ h => h.elim) (fun _ _ h => h)
    refine hK _ _ (fun _ => ⟨cell_below hb4' _ _ he0, cell_below hb4' _ _ he1, cell_below hb4' _ _ he2, cell_below hb4' _ _ hcz3⟩) ?_
    clear hK K
    go_simp
    refine etail_cons (fun K hK => ?_)
    go_simp
    have hb04 : Below w.heap.size w w4 := hb03.trans (hb4'.mono hb03.size)
    refine (hpj v4 w4 hl4 (Kd.below h hb04)).mono ?_
    rintro e w5 ⟨v5, q, rfl, hb5, hx5⟩
    have hb45 : Below w3.heap.size w3 w5 := hb4'.trans (hb5.mono hsz4)
    have hb05 : Below w.heap.size w w5 := hb04.trans (hb5.mono hb04.size)
    have hf0 := cell_below hb45 _ _ he0
    have hf1 := cell_below hb45 _ _ he1
    have hf2 := cell_below hb45 _ _ he2
    have hfz := cell_below hb45 _ _ hcz3
    refine hK _ _ (fun _ => ⟨hf0, hf1, hf2, hfz⟩) ?_
    clear hK K ho4 hl4 he0 he1 he2 hcz3 hsrc hpj
    have hsz5 := hb05.size
    have hlt5 : w.heap.size < w5.heap.size := by have := hb45.size; omega
    have hlt6 : w1.heap.size < w5.heap.size := by have := hb45.size; omega
    cases hpp : pp j size (List.range k) src with
    | error q' =>
      rw [hpp] at hx5
      obtain ⟨rfl, rfl⟩ := hx5
      have HN : Hid (out = .error q) := by show out = _; rw [HNB.out]; unfold newV; simp only [hpp]
      have hq4 := hpej q hpp
      have hqq : ((q : Int) != 0) = true := by rw [hq4]; rfl
      clear hpp HNB hplj hpej hq4
      go_simp
      refine etail_nil ?_
      iterate 5
        apply front_cons
        · intro w9
          go_simp
          with_reducible rfl
        go_simp
      refine front_nil ?_
      go_wp2
      go_ret2
      rw [HN.out]
      exact RetE.err_ hb05
    | ok c =>
      rw [hpp] at hx5
      obtain ⟨hx5, rfl⟩ := hx5
      have HN : Hid (out = .ok ⟨k, j, size, c⟩) := by show out = _; rw [HNB.out]; unfold newV; simp only [hpp]
      have hcl := hplj c hpp
      have HCL : Hid (c.length = Lk k) := hcl
      obtain ⟨A5, c5, rfl, -⟩ := KSl.val hx5
      have hbk := Blk.new w5 157 [.int .i64 k, .int .i64 (Sk k : Nat), .int .i64 2, .int .i64 j, .int .i64 size, .slice A5 c.length c5]
      clear hpp HNB hplj hcl hpej
      go_simp
      refine etail_nil ?_
      iterate 5
        apply front_cons
        · intro w9
          go_simp
          with_reducible rfl
        go_simp
      refine front_nil ?_
      go_wp2
      go_ret2
      rw [HN.out]
      refine RetE.mk_ (hb05.alloc hsz5 _) ?_
      refine KPtr.of_blk hbk (fun (h : w5.heap.size < w.heap.size) => by omega) ⟨_, rfl, Kd.below (KRows.anti hx5 fun g _ (hg : g < w.heap.size) => by have := hb04.size; show g < w4.heap.size; omega) (below_one w5 _), ⟨by simp only; omega, by simp only; omega, by simp only; omega, by simp only; omega, by simp only; omega, HCL.out⟩⟩

/-! ### Symbol -/
theorem KBlockP.val {M : Blocks} {w : World} {v : Value} {b : BlockD} (h : KBlockP.R M w [v] b) : ∃ g u, v = .pointer (some ⟨g, 0, none⟩) ∧ g < w.heap.size ∧ ¬ M g ∧ KRows.R M w [u] b.c ∧ BOk b ∧
    w.cell? ⟨g, 0, none⟩ = some (.int .i64 b.k) ∧ w.cell? ⟨g, 1, none⟩ = some (.int .i64 (Sk b.k : Nat)) ∧ w.cell? ⟨g, 2, none⟩ = some (.int .i64 2) ∧ w.cell? ⟨g, 3, none⟩ = some (.int .i64 b.j) ∧ w.cell? ⟨g, 4, none⟩ = some (.int .i64 b.size) ∧ w.cell? ⟨g, 5, none⟩ = some u := by
  obtain ⟨g, ecs, rfl, hlt, hm, ⟨u, rfl, hu, hok⟩, hc⟩ := KPtr.val h
  exact ⟨g, u, rfl, hlt, hm, hu, hok, hc 0 _ rfl, hc 1 _ rfl, hc 2 _ rfl, hc 3 _ rfl, hc 4 _ rfl, hc 5 _ rfl⟩
set_option maxRecDepth 100000 in
set_option maxHeartbeats 1000000 in
theorem symbol_yes (v : Value) (b : BlockD) (esi : Nat) (he : esi < 16777216) (w : World) (h : KBlockP.R noB w [v] b) :
    Calls Try.prog 83 #[v, .int .i64 esi] w (RetE KBs (.slice none 0 0) w (.ok (dropOf b.k b.j b.size b.c esi))) := by
  obtain ⟨g, u, rfl, hlt, -, hu, hok, hc0, hc1, hc2, hc3, hc4, hc5⟩ := KBlockP.val h
  have hdrop := fun (W : World) (hW : KRows.R noB W [u] b.c) => drop_any b.k b.j b.size hok.k1 hok.k2 hok.j2 hok.z1 hok.z2 u b.c esi he W hW hok.l
  obtain ⟨A, c, rfl, -⟩ := KSl.val hu
  have e1 : decide ((esi : Int) < 0) = false := by simp
  have e2 : decide ((16777216 : Int) ≤ (esi : Int)) = false := by simp; omega
  generalize dropOf b.k b.j b.size b.c esi = out at *
  clear hok h
  go_enter Try.func83, Try.ntmps83
  go_upto_region 3 with fail
  refine wp_region_plan2 [0, 1, 2, 3, 4, 5, 6, 7, 8, 9, 10, 11, 12, 13, 14, 15, 16] [3, 7, 11, 15] [17] [] [18, 19] (fun w' => w'.cell? ⟨g, 0, none⟩ = some (.int .i64 b.k) ∧ w'.cell? ⟨g, 1, none⟩ = some (.int .i64 (Sk b.k : Nat)) ∧ w'.cell? ⟨g, 2, none⟩ = some (.int .i64 2) ∧ w'.cell? ⟨g, 3, none⟩ = some (.int .i64 b.j) ∧ w'.cell? ⟨g, 4, none⟩ = some (.int .i64 b.size) ∧ w'.cell? ⟨g, 5, none⟩ = some (.slice A b.c.length c)) (by kernel_rfl) (by kernel_rfl) (fun _ _ _ _ _ h => h) ⟨hc0, hc1, hc2, hc3, hc4, hc5⟩ ?_
  simp only [List.map_cons, List.map_nil, opAt, List.getD_cons_zero, List.getD_cons_succ, List.contains_cons, List.contains_nil, Nat.reduceBEq, Bool.or_false, Bool.or_true]
  iterate 3
    apply front_cons
    · intro w9
      go_simp
      with_reducible rfl
    go_simp
  apply front_hot
  · intro w9 hS
    obtain ⟨hS0, hS1, hS2, hS3, hS4, hS5⟩ := hS
    go_simp
    with_reducible rfl
  go_simp
  iterate 3
    apply front_cons
    · intro w9
      go_simp
      with_reducible rfl
    go_simp
  apply front_hot
  · intro w9 hS
    obtain ⟨hS0, hS1, hS2, hS3, hS4, hS5⟩ := hS
    go_simp
    with_reducible rfl
  go_simp
  iterate 3
    apply front_cons
    · intro w9
      go_simp
      with_reducible rfl
    go_simp
  apply front_hot
  · intro w9 hS
    obtain ⟨hS0, hS1, hS2, hS3, hS4, hS5⟩ := hS
    go_simp
    with_reducible rfl
  go_simp
  iterate 3
    apply front_cons
    · intro w9
      go_simp
      with_reducible rfl
    go_simp
  apply front_hot
  · intro w9 hS
    obtain ⟨hS0, hS1, hS2, hS3, hS4, hS5⟩ := hS
    go_simp
    with_reducible rfl
  go_simp
  apply front_cons
  · intro w9
    go_simp
    with_reducible rfl
  go_simp
  refine front_nil ?_
  refine etail_cons (fun K hK => ?_)
  go_simp
  refine (hdrop _ (Kd.below hu (Below.refl _ _).drew)).mono ?_
  rintro e w4 ⟨v4, rfl, hv4, hb4⟩
  have hb4' : Below w.heap.size w w4 := (Below.refl _ _).drew.trans hb4
  have hv4' : KBs.R (old w) w4 [v4] out := hv4
  refine hK _ _ (fun _ => ⟨cell_below hb4' _ _ hc0, cell_below hb4' _ _ hc1, cell_below hb4' _ _ hc2, cell_below hb4' _ _ hc3, cell_below hb4' _ _ hc4, cell_below hb4' _ _ hc5⟩) ?_
  clear hK K
  go_simp
  refine etail_nil ?_
  iterate 2
    apply front_cons
    · intro w9
      go_simp
      with_reducible rfl
    go_simp
  refine front_nil ?_
  go_wp2
  go_ret2
  exact RetE.mk_ hb4' hv4'
theorem symbol_no (v : Value) (b : BlockD) (esi : Int) (he : esi < 0 ∨ 16777216 ≤ esi) (w : World) (h : KBlockP.R noB w [v] b) :
    Calls Try.prog 83 #[v, .int .i64 esi] w (RetE KBs (.slice none 0 0) w (.error 1)) := by
  obtain ⟨g, u, rfl, -⟩ := KBlockP.val h
  by_cases h0 : esi < 0
  · have e1 : decide (esi < 0) = true := by simpa using h0
    clear h he
    go_enter Try.func83, Try.ntmps83
    go_wp2
    go_ret2
    exact RetE.err_ (Below.refl _ _)
  · have e1 : decide (esi < 0) = false := by simpa using h0
    have h1 : 16777216 ≤ esi := by omega
    have e2 : decide ((16777216 : Int) ≤ esi) = true := by simpa using h1
    clear h he
    go_enter Try.func83, Try.ntmps83
    go_wp2
    go_ret2
    exact RetE.err_ (Below.refl _ _)
end Go.Proofs.Ytpdfcgkeclocoaa
