/- The walk of decode.Block. -/
import Derived.Test.YtpdfcgkeclocoaaDWords
set_option linter.all false
namespace Go.Proofs.Ytpdfcgkeclocoaa
open Go.RowKit GF
attribute [local go_sem ↓] Go.wp_at_zero Go.wp_at_succ

/-- Values that look only at blocks below B. -/
def KLow {α : Type} (B : Nat) (K : Kd α) : Kd α where
  size := K.size
  R := fun M w cs x => K.R (fun g => M g ∨ B ≤ g) w cs x
  len := fun h => K.len h
  keep := fun h hb => K.keep h fun g hg hn => hb g hg fun hm => hn (.inl hm)
  anti := fun h hm => K.anti h fun g hg hn => hn.imp (hm g hg) id
  one := fun h => K.one h
theorem Own.low_keep {α : Type} {K : Kd α} {e : TypeId} {B B0 : Nat} {M M' : Blocks} {w w' : World} {v : Value} {xs : List α} (h : Own (KLow B K) e B0 M w v xs) (hu : Upd M' w w') (hM : ∀ g, M' g → B ≤ g) (hv : ∀ g, v.ownBlock = some g → ¬ M' g) : Own (KLow B K) e B0 M w' v xs := by
  obtain ⟨css, hl, ⟨h1, h2⟩, hr⟩ := h
  refine ⟨css, hl, ⟨h1, ?_⟩, fun i h1 h2 => K.keep (hr i h1 h2) fun g hg hn => hu.block g hg fun hm => hn (.inr (hM g hm))⟩
  rcases h2 with h2 | ⟨g, cap, cur, rfl, hB, hh, r⟩
  · exact .inl h2
  · have hlt : g < w.heap.size := (Array.getElem?_eq_some_iff.1 hh).1
    exact .inr ⟨g, cap, cur, rfl, hB, (hu.block g hlt (hv g rfl)).trans hh, r⟩
theorem Own.unlow {α : Type} {K : Kd α} {e : TypeId} {B B0 : Nat} {M : Blocks} {w : World} {v : Value} {xs : List α} (h : Own (KLow B K) e B0 M w v xs) : Own K e B0 M w v xs := by
  obtain ⟨css, hl, h1, hr⟩ := h
  exact ⟨css, hl, h1, fun i h1 h2 => K.anti (hr i h1 h2) fun g _ hm => .inl hm⟩

/-- The first symbol of each number. -/
def firsts (l : List DropD) : List DropD := l.foldl (fun acc x => if acc.any (fun y => decide (x.1 = y.1)) then acc else acc ++ [x]) []
theorem firsts_snoc (l : List DropD) (x : DropD) : firsts (l ++ [x]) = if (firsts l).any (fun y => decide (x.1 = y.1)) then firsts l else firsts l ++ [x] := by
  unfold firsts; rw [List.foldl_append]; rfl
theorem firsts_sub (l : List DropD) : ∀ x ∈ firsts l, x ∈ l := by
  have : ∀ n, ∀ x ∈ firsts (l.take n), x ∈ l := by
    intro n
    induction n with
    | zero => simp [firsts]
    | succ n ih =>
      by_cases h : n < l.length
      · rw [List.take_succ_eq_append_getElem h, firsts_snoc]
        intro x hx
        split at hx
        · exact ih x hx
        · rcases List.mem_append.1 hx with hx | hx
          · exact ih x hx
          · rw [List.mem_singleton] at hx; rw [hx]; exact List.getElem_mem h
      · rw [List.take_of_length_le (by omega)]; rw [List.take_of_length_le (by omega)] at ih; exact ih
  have h := this l.length
  rwa [List.take_of_length_le (Nat.le_refl _)] at h
theorem firsts_length (l : List DropD) : (firsts l).length ≤ l.length := by
  have : ∀ n, (firsts (l.take n)).length ≤ n := by
    intro n
    induction n with
    | zero => simp [firsts]
    | succ n ih =>
      by_cases h : n < l.length
      · rw [List.take_succ_eq_append_getElem h, firsts_snoc]
        split
        · omega
        · simp; omega
      · rw [List.take_of_length_le (by omega)]; rw [List.take_of_length_le (by omega)] at ih; omega
  have h := this l.length
  rwa [List.take_of_length_le (Nat.le_refl _)] at h
def decV (k size : Nat) (l : List DropD) : Option Nat → Except Nat (List Row)
  | none => .error 5
  | some j => match partsP k j size ((firsts l).map (·.1.toNat)) ((firsts l).map (·.2)) with
    | .error q => .error q
    | .ok c => .ok ((List.range k).map (dropOf k j size c))
/-- What any symbols tell of a block. -/
def decB (k size : Nat) (l : List DropD) : Except Nat (List Row) :=
  if l.any (fun x => wrongE x.1) then .error 1 else if l.any (fun x => x.2.length != size) then .error 10 else decV k size l (findJ k)

set_option maxRecDepth 100000 in
set_option maxHeartbeats 4000000 in
theorem decB_any (k size : Nat) (h1 : 1 ≤ k) (h2 : k ≤ 40) (hz1 : 1 ≤ size) (hz2 : size ≤ 64) (v : Value) (l : List DropD) (w : World) (h : KDrops.R noB w [v] l) (hlen : l.length ≤ 100000) :
    Calls Try.prog 75 #[.int .i64 k, .int .i64 size, v] w (RetE KRows (.slice none 0 0) w (decB k size l)) := by
  have hof := params_of_yes k h1 h2
  have hfind := find_yes k h1 h2
  have hsrc := sources_any k h2
  have hfe : findE k = findV (findJ k) := rfl
  have hwr := fun (W : World) (hW : KDrops.R noB W [v] l) => wrongs_any v l W hW
  have hsz := fun (gb : Nat) (W : World) (hW : KDrops.R noB W [v] l) (hb : W.cell? ⟨gb, 0, none⟩ = some (.int .i64 size)) => dsizes_any v l size gb W hW hb
  have hdb : decB k size l = if l.any (fun x => wrongE x.1) then .error 1 else if l.any (fun x => x.2.length != size) then .error 10 else decV k size l (findJ k) := rfl
  have hparts := fun (j : Nat) (hj : j ≤ 255) (ve vd : Value) (es : List Nat) (ds : List Row) (W : World) (he : (KSl 8 KNat).R noB W [ve] es) (hd : KRows.R noB W [vd] ds) (hl : es.length = ds.length) (hx : ∀ x ∈ es, x < 16777216) (hn : es.length ≤ 100000) => bparts_any k j size h1 h2 hj hz1 hz2 ve vd es ds W he hd hl hx hn
  have hdrops := fun (j : Nat) (hj : j ≤ 255) (vc : Value) (c : List Row) (ve : Value) (W : World) (hW : KRows.R noB W [vc] c) (hc : c.length = Lk k) (he : (KSl 8 KNat).R noB W [ve] (List.range k)) => drops_any k j size h1 h2 hj hz1 hz2 vc c ve (List.range k) (fun x hx => by simp at hx; omega) W hW hc he (by simp; omega)
  have hpl : ∀ j es ds c, partsP k j size es ds = .ok c → c.length = Lk k := fun j es ds c h => solveP_length h
  have hpe : ∀ j es ds q, partsP k j size es ds = .error q → q = 4 := fun j es ds q h => solveP_err h
  have HJL : Hid (∀ j, findJ k = some j → j ≤ 255) := fun j h => findJ_le h
  have HDV : Hid (∀ fj, decV k size l fj = match fj with
    | none => .error 5
    | some j => match partsP k j size ((firsts l).map (·.1.toNat)) ((firsts l).map (·.2)) with
      | .error q => .error q
      | .ok c => .ok ((List.range k).map (dropOf k j size c))) := fun fj => by cases fj <;> rfl
  have z1 : decide ((size : Int) < 1) = false := by simp; omega
  have z2 : decide ((64 : Int) < (size : Int)) = false := by simp; omega
  obtain ⟨A, cp, rfl, -⟩ := KSl.val h
  have HDB : Hid (decB k size l = if l.any (fun x => wrongE x.1) then .error 1 else if l.any (fun x => x.2.length != size) then .error 10 else decV k size l (findJ k)) := hdb
  have HE : Hid (findE k = findV (findJ k)) := hfe
  generalize decB k size l = out at *
  generalize decV k size l = dv at *
  generalize findJ k = fj at *
  generalize findE k = fe at *
  clear hdb hfe
  have hmm := @run_makeMap Try.prog
  go_enter Try.func75, Try.ntmps75
  go_wp2_with fail
  refine (hof _).mono ?_
  rintro e w1 ⟨rfl, hb1⟩
  clear hof
  have hxs : Blk w1 w.heap.size 3 [.int .i64 size] := (Blk.new w _ _).below (hb1.mono (Nat.le_refl _))
  have hb01 : Below w.heap.size w w1 := (below_one w _).trans (hb1.mono (by simp))
  have hlt1 := hxs.lt
  have hx := Blk.new w1 155 [.int .i64 k, .int .i64 (Sk k : Nat), .int .i64 2]
  have hbx : Below w.heap.size w (w1.alloc (.cells #[.int .i64 k, .int .i64 (Sk k : Nat), .int .i64 2] 155)) := hb01.alloc (by omega) _
  have hxsx := hxs.below (below_one w1 (.cells #[.int .i64 k, .int .i64 (Sk k : Nat), .int .i64 2] 155))
  have hcz := hxs.cell 0
  simp only [List.getElem?_cons_zero] at hcz
  have hw0 := hwr _ (Kd.below h hbx)
  go_wp2_with fail
  generalize hwa : w1.alloc (.cells #[.int .i64 k, .int .i64 (Sk k : Nat), .int .i64 2] 155) = wa at *
  have hsza : wa.heap.size = w1.heap.size + 1 := by rw [← hwa]; simp
  have HSZA : Hid (wa.heap.size = w1.heap.size + 1) := hsza
  have hsza' : w1.heap.size < wa.heap.size := by omega
  clear hwa hcz hsza hwr
  refine hw0.mono ?_
  rintro e w2 ⟨rfl, hb2⟩
  have hb02 : Below w.heap.size w w2 := hbx.trans (hb2.mono hbx.size)
  have hx2 := hx.below hb2
  have hxs2 := hxsx.below hb2
  have hsz2 := hb2.size
  have hcz2 := hxs2.cell 0
  simp only [List.getElem?_cons_zero] at hcz2
  clear hw0 hx hxs hxsx
  cases hany : l.any (fun x => wrongE x.1) with
  | true =>
    have HO : Hid (out = .error 1) := by show out = _; rw [HDB.out, hany]; rfl
    clear hany HDB
    go_wp2
    go_ret2
    rw [HO.out]
    exact RetE.err_ hb02
  | false =>
    have HDB2 : Hid (out = if l.any (fun x => x.2.length != size) then .error 10 else dv fj) := by show out = _; rw [HDB.out, hany]; rfl
    have HGood : Hid (∀ x ∈ l, 0 ≤ x.1 ∧ x.1 < 16777216) := fun x hx => by
      have := List.any_eq_false.1 hany x hx
      simp [wrongE] at this
      omega
    have hs2 := hsz w.heap.size w2 (Kd.below h hb02) hcz2
    clear hany HDB hsz
    go_wp2_with fail
    refine hs2.mono ?_
    rintro e w3 ⟨rfl, hb3⟩
    have hb03 : Below w.heap.size w w3 := hb02.trans (hb3.mono hb02.size)
    have hx3 := hx2.below hb3
    have hxs3 := hxs2.below hb3
    have hsz3 := hb3.size
    clear hs2 hx2 hxs2 hcz2
    cases hany : l.any (fun x => x.2.length != size) with
    | true =>
      have HO : Hid (out = .error 10) := by show out = _; rw [HDB2.out, hany]; rfl
      clear hany HDB2
      go_wp2
      go_ret2
      rw [HO.out]
      exact RetE.err_ hb03
    | false =>
      have HDB3 : Hid (out = dv fj) := by show out = _; rw [HDB2.out, hany]; rfl
      clear hany HDB2
      go_wp2_with fail
      refine (hfind _).mono ?_
      rintro e w4 ⟨rfl, hb4⟩
      have hb04 : Below w.heap.size w w4 := hb03.trans (hb4.mono hb03.size)
      have hx4 := hx3.below hb4
      have hxs4 := hxs3.below hb4
      have hsz4 := hb4.size
      clear hfind hx3 hxs3
      cases fj with
      | none =>
        have HE2 : Hid (fe = ((0 : Int), 5)) := HE.out
        have HN : Hid (out = .error 5) := by show out = _; rw [HDB3.out, HDV.out]
        obtain ⟨fe1, fe2⟩ := fe
        have e1 : fe1 = 0 := congrArg Prod.fst HE2.out
        have e2 : fe2 = 5 := congrArg Prod.snd HE2.out
        subst e1 e2
        clear HE2 HE HJL HDB3
        simp only
        go_wp2
        go_ret2
        rw [HN.out]
        exact RetE.err_ hb04
      | some j =>
        have HE2 : Hid (fe = ((j : Int), 0)) := HE.out
        obtain ⟨fe1, fe2⟩ := fe
        have e1 : fe1 = j := congrArg Prod.fst HE2.out
        have e2 : fe2 = 0 := congrArg Prod.snd HE2.out
        subst e1 e2
        have hj := HJL.out j rfl
        have HOV := HDV.out (some j)
        simp only at HOV
        rw [← HDB3.out] at HOV
        have HO : Hid (out = match partsP k j size ((firsts l).map (·.1.toNat)) ((firsts l).map (·.2)) with
          | .error q => .error q
          | .ok c => .ok ((List.range k).map (dropOf k j size c))) := HOV
        have hpj := hparts j hj
        have hdj := hdrops j hj
        have hplj := hpl j
        have hpej := hpe j
        clear HE2 HE HJL HDB3 HDV HOV hparts hdrops hpl hpe
        simp only
        go_upto_region 12 with fail
        have hseen0 := Seen.made w4
        have hx5 := hx4.below (below_one w4 (.map #[] 0))
        have hxs5 := hxs4.below (below_one w4 (.map #[] 0))
        have hb05 : Below w.heap.size w (w4.alloc (.map #[] 0)) := hb04.alloc hb04.size _
        generalize hwl : w4.alloc (.map #[] 0) = wl at *
        have hszl : wl.heap.size = w4.heap.size + 1 := by rw [← hwl]; simp
        have HSZL : Hid (wl.heap.size = w4.heap.size + 1) := hszl
        have hszl' : w4.heap.size < wl.heap.size := by omega
        have hw14 : w1.heap.size < w4.heap.size := by omega
        have hw04 : w.heap.size < w4.heap.size := by omega
        clear hwl hszl hmm hx4 hxs4
        go_wp2_with fail
        go_loopw [11, 12, 50] (fun e d i wr => ∃ n : Nat, n ≤ l.length ∧ i = .int .i64 n ∧ Own (KLow w.heap.size KNat) 3 wl.heap.size noB wr e ((firsts (l.take n)).map (·.1.toNat)) ∧ Own (KLow w.heap.size KBs) 131 wl.heap.size noB wr d ((firsts (l.take n)).map (·.2)) ∧
          (∀ g, e.ownBlock = some g → d.ownBlock ≠ some g) ∧ Seen wr w4.heap.size n (fun y => (firsts (l.take n)).any fun z => decide (y = z.1)) ∧ Upd (fun g => g = w4.heap.size) wl wr) (fun _ _ i _ => l.length - (intOf i).toNat)
        case atStart => exact ⟨0, Nat.zero_le _, rfl, Own.nil, Own.nil, (fun g h => by cases h), hseen0, Upd.refl _ _⟩
        case round =>
          obtain ⟨n, hn, rfl, hoe, hod, hdis, hseen, hupd⟩ := hrel
          have hszr := hupd.size
          have hbw : Below w.heap.size w wr := hb05.trans ⟨hupd.os, hupd.tape, hupd.output, hupd.size, fun b hb => hupd.block b (by omega) (by omega)⟩
          have hxr : Blk wr w1.heap.size 155 [.int .i64 k, .int .i64 (Sk k : Nat), .int .i64 2] := hx5.same (hupd.block _ (by omega) (by omega))
          have hxsr : Blk wr w.heap.size 3 [.int .i64 size] := hxs5.same (hupd.block _ (by omega) (by omega))
          by_cases hlt : n < l.length
          · obtain ⟨ad, u, rfl, hc0, hc1, hu, hxi⟩ := KDrops.at_ h hlt
            have hgx := HGood.out _ (List.getElem_mem hlt)
            have hsn := firsts_snoc (l.take n) l[n]
            rw [← List.take_succ_eq_append_getElem hlt] at hsn
            have hfl := firsts_length (l.take n)
            rw [List.length_take] at hfl
            have HS : Hid (firsts (l.take (n + 1)) = if (firsts (l.take n)).any (fun y => decide (l[n].1 = y.1)) then firsts (l.take n) else firsts (l.take n) ++ [l[n]]) := hsn
            clear hsn
            generalize firsts (l.take n) = fs at *
            generalize hxx : l[n] = x at *
            obtain ⟨xe, r⟩ := x
            simp only at hc0 hc1 hu hxi hgx HS
            obtain ⟨n0, rfl⟩ : ∃ n0 : Nat, xe = (n0 : Int) := ⟨xe.toNat, by omega⟩
            have hc0' := cell_below hbw _ _ hc0
            have hc1' := cell_below hbw _ _ hc1
            have hfsl : fs.length ≤ 100000 := by omega
            obtain ⟨Au, cu, rfl, -⟩ := KSl.val hu
            have hbox := Blk.new wr 133 [.int .i64 (n0 : Int), .slice Au r.length cu]
            have hseen1 := hseen.below (below_one wr (.cells #[.int .i64 (n0 : Int), .slice Au r.length cu] 133))
            have hul := hupd.trans (Upd.of_below (M := fun g => g = w4.heap.size) (below_one wr (.cells #[.int .i64 (n0 : Int), .slice Au r.length cu] 133)))
            have hoe1 := hoe.below (below_one wr (.cells #[.int .i64 (n0 : Int), .slice Au r.length cu] 133))
            have hod1 := hod.below (below_one wr (.cells #[.int .i64 (n0 : Int), .slice Au r.length cu] 133))
            have HN0 : Hid (n0 < 16777216) := by show n0 < 16777216; omega
            have hbe : ∀ g, u11.ownBlock = some g → wl.heap.size ≤ g ∧ g < wr.heap.size := fun g hg => hoe.block hg
            have hbd : ∀ g, u12.ownBlock = some g → wl.heap.size ≤ g ∧ g < wr.heap.size := fun g hg => hod.block hg
            clear hc0 hc1 hxx hgx hseen
            cases hpv : fs.any (fun z => decide ((n0 : Int) = z.1)) with
            | true =>
              have HS2 : Hid (firsts (l.take (n + 1)) = fs) := by show _ = _; rw [HS.out, hpv]; rfl
              have HP : Hid (fs.any (fun z => decide ((n0 : Int) = z.1)) = true) := hpv
              clear HS hpv hoe hod hupd
              go_wp2_with (at_lookup; refine wpList_seen rfl _ _ rfl rfl rfl hseen1 hxi ?_; simp only [HP.out])
              go_roundw
              case rel => exact ⟨n + 1, by omega, by go_num, by rw [HS2.out]; exact hoe1, by rw [HS2.out]; exact hod1, hdis, by rw [HS2.out]; exact hseen1.mono (by omega), hul⟩
              case measure => simp [intOf]; omega
            | false =>
              have HS2 : Hid (firsts (l.take (n + 1)) = fs ++ [((n0 : Int), r)]) := by show _ = _; rw [HS.out, hpv]; rfl
              have HP : Hid (fs.any (fun z => decide ((n0 : Int) = z.1)) = false) := hpv
              clear HS hpv hoe hod hupd
              go_upto_region 17 with (first | (at_lookup; refine wpList_seen rfl _ _ rfl rfl rfl hseen1 hxi ?_; simp only [HP.out]) | (at_mapUpdate; refine wpList_see rfl _ _ _ rfl rfl rfl rfl hseen1 hxi (by omega) ?_; intro wm hsm hgrm))
              have hoe2 := hoe1.low_keep (Upd.grown (M := fun g => g = w4.heap.size) hgrm (fun b hb _ => (Option.some.inj hb).symm)) (fun g hg => by omega) (fun g hg hm => by have := (hoe1.block hg).1; omega)
              have hod2 := hod1.low_keep (Upd.grown (M := fun g => g = w4.heap.size) hgrm (fun b hb _ => (Option.some.inj hb).symm)) (fun g hg => by omega) (fun g hg hm => by have := (hod1.block hg).1; omega)
              have hbox2 : Blk wm wr.heap.size 133 [.int .i64 (n0 : Int), .slice Au r.length cu] := hbox.same (hgrm.block _ (by simp) (by simp; omega))
              have hupm := hul.trans (Upd.grown (M := fun g => g = w4.heap.size) hgrm (fun b hb _ => (Option.some.inj hb).symm))
              have hx0 := hbox2.cell 0
              have hx1 := hbox2.cell 1
              simp only [List.getElem?_cons_zero, List.getElem?_cons_succ] at hx0 hx1
              have hszm : wr.heap.size < wm.heap.size := hbox2.lt
              have HBM : Hid (∀ g, g < w.heap.size → wm.heap[g]? = w.heap[g]?) := fun g hg => (hupm.block g (by omega) (by omega)).trans (hb05.block g hg)
              clear hoe1 hod1 hbox hul hgrm hbox2 hseen1
              refine wp_region_rely [0, 1, 2, 5, 6, 7] [2, 7] [3, 4, 8, 9] [10, 11] (fun w' => w'.cell? ⟨wr.heap.size, 0, none⟩ = some (.int .i64 (n0 : Int)) ∧ w'.cell? ⟨wr.heap.size, 1, none⟩ = some (.slice Au r.length cu))
                (fun d vs w' => Upd (fun g => u11.ownBlock = some g ∨ u12.ownBlock = some g) wm w' ∧
                  Own (KLow w.heap.size KNat) 3 wl.heap.size noB w' (if d 4 then vs 4 else u11) (if d 4 then fs.map (·.1.toNat) ++ [n0] else fs.map (·.1.toNat)) ∧
                  Own (KLow w.heap.size KBs) 131 wl.heap.size noB w' (if d 9 then vs 9 else u12) (if d 9 then fs.map (·.2) ++ [r] else fs.map (·.2)) ∧
                  (∀ g, (if d 4 then vs 4 else u11).ownBlock = some g → (if d 9 then vs 9 else u12).ownBlock ≠ some g) ∧
                  (d 3 = true → d 4 = false → ∃ g, vs 3 = .slice (some ⟨g, 0, none⟩) 1 1 ∧ Blk w' g 3 [.int .i64 (n0 : Int)] ∧ wm.heap.size ≤ g ∧ (if d 9 then vs 9 else u12).ownBlock ≠ some g) ∧
                  (d 8 = true → d 9 = false → ∃ g, vs 8 = .slice (some ⟨g, 0, none⟩) 1 1 ∧ Blk w' g 131 [.slice Au r.length cu] ∧ wm.heap.size ≤ g ∧ (if d 4 then vs 4 else u11).ownBlock ≠ some g))
                (by kernel_rfl) (by kernel_rfl) (fun _ _ _ _ _ h => h) ⟨hx0, hx1⟩ ?_
              simp only [List.map_cons, List.map_nil, opAt, List.getD_cons_zero, List.getD_cons_succ, List.contains_cons, List.contains_nil, Nat.reduceBEq, Bool.or_false, Bool.or_true]
              iterate 2
                apply front_cons
                · intro w9
                  go_simp
                  with_reducible rfl
                go_simp
              apply front_hot
              · intro w9 hS
                obtain ⟨hS0, hS1⟩ := hS
                go_simp
                with_reducible rfl
              go_simp
              iterate 2
                apply front_cons
                · intro w9
                  go_simp
                  with_reducible rfl
                go_simp
              apply front_hot
              · intro w9 hS
                obtain ⟨hS0, hS1⟩ := hS
                go_simp
                with_reducible rfl
              go_simp
              refine front_nil ⟨⟨(Upd.refl _ _).drew, by simpa using hoe2.below (Below.refl _ _).drew, by simpa using hod2.below (Below.refl _ _).drew, by simpa using hdis, by simp, by simp⟩, rfl, ⟨?_, ?_, ?_, ?_, trivial⟩, ?_⟩
              · intro d vs w5 hJ hS hd hdep K X hK
                simp only [fullA, opAt, List.getD_cons_zero, List.getD_cons_succ] at hK ⊢
                have j0 := hJ.1
                have j1 := hJ.2.1
                have j2 := hJ.2.2.1
                have j3 := hJ.2.2.2.1
                have j4 := hJ.2.2.2.2.1
                have j5 := hJ.2.2.2.2.2
                have s0 := hS.1
                have s1 := hS.2
                clear hJ hS
                go_simp
                have hb := below_one w5 (.cells #[.int .i64 (n0 : Int)] 3)
                have hsz5 := j0.size
                refine hK _ (.slice (some ⟨w5.heap.size, 0, none⟩) 1 1) _ (fun t ht => by cases ht; rfl) rfl ⟨j0.trans (Upd.of_below hb), ?_, ?_, ?_, ?_, ?_⟩ ⟨cell_below hb _ _ s0, cell_below hb _ _ s1⟩
                · exact j1.below hb
                · exact j2.below hb
                · exact j3
                · exact fun _ _ => ⟨w5.heap.size, by simp [updV], Blk.new w5 _ _, by omega, fun h => by have := (j2.block h).2; omega⟩
                · exact fun h8 h9 => by
                    obtain ⟨g, e, hbk, hg, hne⟩ := j5 h8 h9
                    exact ⟨g, e, hbk.below hb, hg, hne⟩
              · refine step_list rfl ?_
                intro d vs w5 hJ hS hd hdep K X hK
                simp only [fullA, opAt, List.getD_cons_zero, List.getD_cons_succ] at hK ⊢
                have j0 := hJ.1
                have j1 := hJ.2.1
                have j2 := hJ.2.2.1
                have j3 := hJ.2.2.2.1
                obtain ⟨g3, e3, hb3, hg3, hn3⟩ := hJ.2.2.2.2.1 (hdep 3 (by kernel_rfl) rfl) hd
                have j5 := hJ.2.2.2.2.2
                have s0 := hS.1
                have s1 := hS.2
                clear hJ hS
                rw [hd] at j1 j3 j5
                simp only [Bool.false_eq_true, if_false] at j1 j3 j5
                go_simp
                have hnew : (KSl 8 (KLow w.heap.size KNat)).R (fun g => noB g ∨ u11.ownBlock = some g) w5 [.slice (some ⟨g3, 0, none⟩) 1 1] [n0] := KSl.of_blk1 (bytes := 8) (K := KLow w.heap.size KNat) (M := fun g => noB g ∨ u11.ownBlock = some g) (l := [n0]) hb3 (fun hm => by
                  rcases hm with hm | hm
                  · exact hm
                  · have := (hbe g3 hm).2; omega) rfl (by simp) (by simp) (fun i h1 h2 => by
                  obtain rfl : i = 0 := by simp at h1; omega
                  exact ⟨rfl, by have := HN0.out; simp [IsInt]; omega⟩)
                refine wpList_app (K := KLow w.heap.size KNat) elemInt rfl _ _ rfl rfl rfl j1 hnew ?c1 ?c2 ?c3 ?c4 ?_
                case c1 => simp; omega
                case c2 => simp; omega
                case c3 => have := j0.size; omega
                case c4 => exact fun _ h => h.elim
                intro v' w6 ho6 hgrow0 hob
                have hgrow : w5.grownBy w6 u11.ownBlock := hgrow0
                have hob' : v'.ownBlock = u11.ownBlock ∨ v'.ownBlock = some w5.heap.size := hob
                clear hgrow0 hob hnew
                have hu6 : Upd (fun g => u11.ownBlock = some g) w5 w6 := Upd.grown hgrow (fun b hb _ => hb)
                have hsz5 := j0.size
                go_simp
                refine hK _ v' _ (fun t ht => by cases ht; rfl) rfl ⟨j0.trans (hu6.mono fun g _ h => .inl h), ?_, ?_, ?_, ?_, ?_⟩ ⟨(World.cell?_of_block (hu6.block wr.heap.size (by omega) (fun h => by have := (hbe _ h).2; omega))).trans s0, (World.cell?_of_block (hu6.block wr.heap.size (by omega) (fun h => by have := (hbe _ h).2; omega))).trans s1⟩
                · simpa [updB, updV] using ho6
                · exact j2.low_keep hu6 (fun g hg => by have := (hbe g hg).1; omega) (fun g hg hm => j3 g hm hg)
                · intro g hg h
                  have hg' : v'.ownBlock = some g := by simpa [updB, updV] using hg
                  rcases hob' with e | e
                  · exact j3 g (e ▸ hg') h
                  · rw [e] at hg'
                    have h1 := Option.some.inj hg'
                    have := (j2.block h).2
                    omega
                · exact fun _ h4 => by simp [updB] at h4
                · intro h8 h9
                  obtain ⟨g, e, hbk, hg, hne⟩ := j5 h8 h9
                  refine ⟨g, e, hbk.same (hu6.block g hbk.lt hne), hg, fun h => ?_⟩
                  have hg' : v'.ownBlock = some g := by simpa [updB, updV] using h
                  rcases hob' with e' | e'
                  · exact hne (e' ▸ hg')
                  · rw [e'] at hg'
                    have h1 := Option.some.inj hg'
                    have := hbk.lt
                    omega
              · intro d vs w5 hJ hS hd hdep K X hK
                simp only [fullA, opAt, List.getD_cons_zero, List.getD_cons_succ] at hK ⊢
                have j0 := hJ.1
                have j1 := hJ.2.1
                have j2 := hJ.2.2.1
                have j3 := hJ.2.2.2.1
                have j4 := hJ.2.2.2.2.1
                have j5 := hJ.2.2.2.2.2
                have s0 := hS.1
                have s1 := hS.2
                clear hJ hS
                go_simp
                have hb := below_one w5 (.cells #[.slice Au r.length cu] 131)
                have hsz5 := j0.size
                refine hK _ (.slice (some ⟨w5.heap.size, 0, none⟩) 1 1) _ (fun t ht => by cases ht; rfl) rfl ⟨j0.trans (Upd.of_below hb), ?_, ?_, ?_, ?_, ?_⟩ ⟨cell_below hb _ _ s0, cell_below hb _ _ s1⟩
                · exact j1.below hb
                · exact j2.below hb
                · exact j3
                · exact fun h3 h4 => by
                    obtain ⟨g, e, hbk, hg, hne⟩ := j4 h3 h4
                    exact ⟨g, e, hbk.below hb, hg, hne⟩
                · exact fun _ _ => ⟨w5.heap.size, by simp [updV], Blk.new w5 _ _, by omega, fun h => by have := (j1.block h).2; omega⟩
              · refine step_list rfl ?_
                intro d vs w5 hJ hS hd hdep K X hK
                simp only [fullA, opAt, List.getD_cons_zero, List.getD_cons_succ] at hK ⊢
                have j0 := hJ.1
                have j1 := hJ.2.1
                have j2 := hJ.2.2.1
                have j3 := hJ.2.2.2.1
                have j4 := hJ.2.2.2.2.1
                obtain ⟨g3, e3, hb3, hg3, hn3⟩ := hJ.2.2.2.2.2 (hdep 8 (by kernel_rfl) rfl) hd
                have s0 := hS.1
                have s1 := hS.2
                clear hJ hS
                rw [hd] at j2 j3 j4
                simp only [Bool.false_eq_true, if_false] at j2 j3 j4
                go_simp
                have hul5 : (KLow w.heap.size KBs).R (fun g => noB g ∨ u12.ownBlock = some g) w5 [.slice Au r.length cu] r := show KBs.R (fun g => (noB g ∨ u12.ownBlock = some g) ∨ w.heap.size ≤ g) w5 [.slice Au r.length cu] r from KBs.keep (w := w) (KBs.anti (M' := fun g => (noB g ∨ u12.ownBlock = some g) ∨ w.heap.size ≤ g) hu fun g hg hm => by
                  rcases hm with (hm | hm) | hm
                  · exact hm
                  · have := (hbd g hm).1; omega
                  · omega) fun g hg hn => (j0.block g (by omega) fun h => by
                    rcases h with h | h
                    · have := (hbe g h).1; omega
                    · have := (hbd g h).1; omega).trans (HBM.out g hg)
                have hnew : (KSl 24 (KLow w.heap.size KBs)).R (fun g => noB g ∨ u12.ownBlock = some g) w5 [.slice (some ⟨g3, 0, none⟩) 1 1] [r] := KSl.of_blk1 (bytes := 24) (K := KLow w.heap.size KBs) (M := fun g => noB g ∨ u12.ownBlock = some g) (l := [r]) hb3 (fun hm => by
                  rcases hm with hm | hm
                  · exact hm
                  · have := (hbd g3 hm).2; omega) rfl (by simp) (by simp) (fun i h1 h2 => by
                  obtain rfl : i = 0 := by simp at h1; omega
                  exact hul5)
                refine wpList_app (K := KLow w.heap.size KBs) elemRow rfl _ _ rfl rfl rfl j2 hnew ?c1 ?c2 ?c3 ?c4 ?_
                case c1 => simp; omega
                case c2 => simp; omega
                case c3 => have := j0.size; omega
                case c4 => exact fun _ h => h.elim
                intro v' w6 ho6 hgrow0 hob
                have hgrow : w5.grownBy w6 u12.ownBlock := hgrow0
                have hob' : v'.ownBlock = u12.ownBlock ∨ v'.ownBlock = some w5.heap.size := hob
                clear hgrow0 hob hnew
                have hu6 : Upd (fun g => u12.ownBlock = some g) w5 w6 := Upd.grown hgrow (fun b hb _ => hb)
                have hsz5 := j0.size
                go_simp
                refine hK _ v' _ (fun t ht => by cases ht; rfl) rfl ⟨j0.trans (hu6.mono fun g _ h => .inr h), ?_, ?_, ?_, ?_, ?_⟩ ⟨(World.cell?_of_block (hu6.block wr.heap.size (by omega) (fun h => by have := (hbd _ h).2; omega))).trans s0, (World.cell?_of_block (hu6.block wr.heap.size (by omega) (fun h => by have := (hbd _ h).2; omega))).trans s1⟩
                · exact j1.low_keep hu6 (fun g hg => by have := (hbd g hg).1; omega) (fun g hg hm => j3 g hg hm)
                · simpa [updB, updV] using ho6
                · intro g hg h
                  have hg' : v'.ownBlock = some g := by simpa [updB, updV] using h
                  rcases hob' with e | e
                  · exact j3 g hg (e ▸ hg')
                  · rw [e] at hg'
                    have h1 := Option.some.inj hg'
                    have := (j1.block hg).2
                    omega
                · intro h3 h4
                  obtain ⟨g, e, hbk, hg, hne⟩ := j4 h3 h4
                  refine ⟨g, e, hbk.same (hu6.block g hbk.lt hne), hg, fun h => ?_⟩
                  have hg' : v'.ownBlock = some g := by simpa [updB, updV] using h
                  rcases hob' with e' | e'
                  · exact hne (e' ▸ hg')
                  · rw [e'] at hg'
                    have h1 := Option.some.inj hg'
                    have := hbk.lt
                    omega
                · exact fun _ h9 => by simp [updB] at h9
              · intro d vs w5 hd hJ hS
                have d4 := hd 4 rfl
                have d9 := hd 9 rfl
                have j0 := hJ.1
                have j1 := hJ.2.1
                have j2 := hJ.2.2.1
                have j3 := hJ.2.2.2.1
                clear hJ
                rw [d4] at j1 j3
                rw [d9] at j2 j3
                simp only [if_true] at j1 j2 j3
                have HSM : Hid (∀ y, (decide (y = (n0 : Int)) || fs.any fun z => decide (y = z.1)) = (fs ++ [((n0 : Int), r)]).any fun z => decide (y = z.1)) := fun y => by rw [List.any_append, Bool.or_comm]; simp
                have hseen5 : Seen w5 w4.heap.size (n + 1) (fun y => (fs ++ [((n0 : Int), r)]).any fun z => decide (y = z.1)) := by
                  have h1 := hsm.same (j0.block w4.heap.size (by omega) fun h => by
                    rcases h with h | h
                    · have := (hbe _ h).1; omega
                    · have := (hbd _ h).1; omega)
                  have e : (fun y => decide (y = (n0 : Int)) || fs.any fun z => decide (y = z.1)) = fun y => (fs ++ [((n0 : Int), r)]).any fun z => decide (y = z.1) := funext HSM.out
                  rw [← e]
                  exact h1
                have hup5 : Upd (fun g => g = w4.heap.size) wl w5 := ⟨j0.os.trans hupm.os, j0.tape.trans hupm.tape, j0.output.trans hupm.output, Nat.le_trans hupm.size j0.size, fun g hg hn => (j0.block g (by have := hupm.size; omega) fun h => by
                    rcases h with h | h
                    · have := (hbe g h).1; omega
                    · have := (hbd g h).1; omega).trans (hupm.block g hg hn)⟩
                have J1 : Own (KLow w.heap.size KNat) 3 wl.heap.size noB w5 (vs 4) ((fs ++ [((n0 : Int), r)]).map (·.1.toNat)) := by simpa using j1
                have J2 : Own (KLow w.heap.size KBs) 131 wl.heap.size noB w5 (vs 9) ((fs ++ [((n0 : Int), r)]).map (·.2)) := by simpa using j2
                clear j1 j2 hsm hupm HSM
                simp only [fullA, opAt, List.getD_cons_zero, List.getD_cons_succ, List.map_cons, List.map_nil]
                go_simp
                iterate 2
                  apply front_cons
                  · intro w9
                    go_simp
                    with_reducible rfl
                  go_simp
                refine front_nil ?_
                go_wp2
                go_roundw
                case rel => exact ⟨n + 1, by omega, by go_num, by rw [HS2.out]; exact J1, by rw [HS2.out]; exact J2, j3, by rw [HS2.out]; exact hseen5, hup5⟩
                case measure => simp [intOf]; omega
          · have e : n = l.length := by omega
            subst e
            rw [List.take_of_length_le (Nat.le_refl _)] at hoe hod
            have hfl := firsts_length l
            have hsub := firsts_sub l
            have hes := hoe.unlow.sl (bytes := 8) (M' := noB) (by rw [List.length_map]; omega) (fun _ _ h => h.elim) (fun _ _ h => h)
            have hds := hod.unlow.sl (bytes := 24) (M' := noB) (by rw [List.length_map]; omega) (fun _ _ h => h.elim) (fun _ _ h => h)
            have hp := hpj u11 u12 _ _ wr hes hds (by simp) (fun x hx => by
              obtain ⟨y, hy, rfl⟩ := List.mem_map.1 hx
              have := HGood.out y (hsub y hy)
              omega) (by rw [List.length_map]; omega)
            have hpc := hplj ((firsts l).map (·.1.toNat)) ((firsts l).map (·.2))
            have hpq := hpej ((firsts l).map (·.1.toNat)) ((firsts l).map (·.2))
            have HO2 : Hid (out = match partsP k j size ((firsts l).map (·.1.toNat)) ((firsts l).map (·.2)) with
              | .error q => .error q
              | .ok c => .ok ((List.range k).map (dropOf k j size c))) := HO.out
            generalize partsP k j size ((firsts l).map (·.1.toNat)) ((firsts l).map (·.2)) = pp at *
            have hp0 := hxr.cell 0
            have hp1 := hxr.cell 1
            have hp2 := hxr.cell 2
            have hps := hxsr.cell 0
            simp only [List.getElem?_cons_zero, List.getElem?_cons_succ] at hp0 hp1 hp2 hps
            have hltp := hxr.lt
            have hlts := hxsr.lt
            clear hpj hplj hpej hoe hod hes hds hseen hdis hsub hfl HO
            go_wp2_with fail
            refine hp.mono ?_
            rintro e w7 ⟨v7, q, rfl, hb7, hx7⟩
            have hq0 := cell_below hb7 _ _ hp0
            have hq1 := cell_below hb7 _ _ hp1
            have hq2 := cell_below hb7 _ _ hp2
            have hqs := cell_below hb7 _ _ hps
            have hbw7 : Below w.heap.size w w7 := hbw.trans (hb7.mono hbw.size)
            have hsz7 := hb7.size
            clear hp hp0 hp1 hp2 hps
            cases pp with
            | error q' =>
              obtain ⟨rfl, rfl⟩ := hx7
              have hq4 := hpq q rfl
              have hqq : ((q : Int) != 0) = true := by rw [hq4]; rfl
              have HN : Hid (out = .error q) := HO2.out
              clear hq4 hpq hpc HO2
              go_wp2
              go_ret2
              rw [HN.out]
              exact RetE.err_ hbw7
            | ok c =>
              obtain ⟨hx7, rfl⟩ := hx7
              have hcl := hpc c rfl
              have HN : Hid (out = .ok ((List.range k).map (dropOf k j size c))) := HO2.out
              have hd7 := fun (ve : Value) (W : World) (hW : Below w7.heap.size w7 W) he => hdj v7 c ve W (Kd.below (Kd.drop hx7) hW) hcl he
              obtain ⟨A7, c7, rfl, -⟩ := KSl.val hx7
              have hrl : ((List.range k).map (dropOf k j size c)).length ≤ 40 := by simp; omega
              generalize (List.range k).map (dropOf k j size c) = res at *
              have hlt7 : w1.heap.size < w7.heap.size := by omega
              have hlt8 : w.heap.size < w7.heap.size := by omega
              clear hdj hpc hpq HO2 hx7 hcl
              go_upto_region 22 with fail
              refine wp_region_plan2 [0, 1, 2, 3, 4] [0, 2] [5, 6] [] [7, 8] (fun w' => w'.cell? ⟨w1.heap.size, 0, none⟩ = some (.int .i64 k) ∧ w'.cell? ⟨w1.heap.size, 1, none⟩ = some (.int .i64 (Sk k : Nat)) ∧ w'.cell? ⟨w1.heap.size, 2, none⟩ = some (.int .i64 2) ∧ w'.cell? ⟨w.heap.size, 0, none⟩ = some (.int .i64 size)) (by kernel_rfl) (by kernel_rfl) (fun _ _ _ _ _ h => h) ⟨hq0, hq1, hq2, hqs⟩ ?_
              simp only [List.map_cons, List.map_nil, opAt, List.getD_cons_zero, List.getD_cons_succ, List.contains_cons, List.contains_nil, Nat.reduceBEq, Bool.or_false, Bool.or_true]
              apply front_hot
              · intro w9 hS
                obtain ⟨hS0, hS1, hS2, hS3⟩ := hS
                go_simp
                with_reducible rfl
              go_simp
              apply front_cons
              · intro w9
                go_simp
                with_reducible rfl
              go_simp
              apply front_hot
              · intro w9 hS
                obtain ⟨hS0, hS1, hS2, hS3⟩ := hS
                go_simp
                with_reducible rfl
              go_simp
              iterate 2
                apply front_cons
                · intro w9
                  go_simp
                  with_reducible rfl
                go_simp
              refine front_nil ?_
              refine etail_cons (fun K hK => ?_)
              go_simp
              refine (hsrc _).mono ?_
              rintro e w8 ⟨v8, rfl, ho8, hb8⟩
              have hb8' : Below w7.heap.size w7 w8 := (Below.refl _ _).drew.trans hb8
              have hl8 := ho8.sl (bytes := 8) (M' := noB) (by simp; omega) (fun _ _ h => h.elim) (fun _ _ h => h)
              refine hK _ _ (fun _ => ⟨cell_below hb8' _ _ hq0, cell_below hb8' _ _ hq1, cell_below hb8' _ _ hq2, cell_below hb8' _ _ hqs⟩) ?_
              clear hK K
              go_simp
              refine etail_cons (fun K hK => ?_)
              go_simp
              refine (hd7 v8 w8 hb8' hl8).mono ?_
              rintro e w9 ⟨v9, rfl, ho9, hb9⟩
              have hsz8 := hb8'.size
              have hb79 : Below w7.heap.size w7 w9 := hb8'.trans (hb9.mono hsz8)
              have hbw9 : Below w.heap.size w w9 := hbw7.trans (hb79.mono hbw7.size)
              have hr := ho9.sl (bytes := 24) (M' := old w) (by omega) (fun g _ (hg : g < w.heap.size) => by show g < w8.heap.size; omega) (fun g hg (hm : g < w.heap.size) => by have := (ho9.block hg).1; omega)
              refine hK _ _ (fun _ => ⟨cell_below hb79 _ _ hq0, cell_below hb79 _ _ hq1, cell_below hb79 _ _ hq2, cell_below hb79 _ _ hqs⟩) ?_
              clear hK K hd7 ho9 ho8 hl8
              go_simp
              refine etail_nil ?_
              iterate 2
                apply front_cons
                · intro w9
                  go_simp
                  with_reducible rfl
                go_simp
              refine front_nil ?_
              go_wp2
              go_ret2
              rw [HN.out]
              exact RetE.mk_ hbw9 hr
end Go.Proofs.Ytpdfcgkeclocoaa
