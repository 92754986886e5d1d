/- The walk of split.Join. -/
import Derived.Test.YtpdfcgkeclocoaaCut
import Derived.Test.YtpdfcgkeclocoaaBlock
set_option linter.all false
namespace Go.Proofs.Ytpdfcgkeclocoaa
open Go.RowKit GF
attribute [local go_sem ↓] Go.wp_at_zero Go.wp_at_succ

/-- What is appended may be of another slice type. -/
theorem append_types {P : Program} {t t' e e' ty : TypeId} (ht : P.underlying t = some (.slice e)) (ht' : P.underlying t' = some (.slice e')) (A : Option Addr) (n c : Nat) (x : Value) (w : World) : (Builtin.append_ #[t, t'] ty #[.slice A n c, x]).run P w = (Builtin.append_ #[t, t] ty #[.slice A n c, x]).run P w := by
  unfold Builtin.append_
  simp only [List.getElem?_toArray, List.getElem?_cons_zero, List.getElem?_cons_succ, Sem.run_bind, run_underlying ht, run_underlying ht', Result.andThen_ok, Sem.run_pure]
theorem ownsRow_slice {w : World} {base e size n : Nat} {v : Value} {xs : List Value} (h : w.ownsRow base e size v n xs) : ∃ A m c, v = .slice A m c := by
  rcases h.2 with ⟨rfl, _⟩ | ⟨g, cap, cur, rfl, _⟩
  · exact ⟨_, _, _, rfl⟩
  · exact ⟨_, _, _, rfl⟩
theorem wpList_append_own_none' {P : Program} {w : World} {ops : Array Oper} {rest : List Oper} {o : Oper} {a : Act} {Q : Exit → Act → World → Prop} (hgd : o.guard = none) (s x : Operand) (t t' e' : TypeId) (ht' : P.underlying t' = some (.slice e'))
    (ho : o.op = .call { callee := .builtin .append, args := #[s, x], argTypes := #[t, t'] })
    (base : Nat) (e : TypeId) (i : TypeInfo) (size : Nat) (ht : P.underlying t = some (.slice e)) (hi : P.info? e = some i)
    (v : Value) (n : Nat) (xs : List Value) (hs : a.eval s = v) (hown : w.ownsRow base e size v n xs) (hx : a.eval x = .slice none 0 0)
    (h : wpList P ops Q rest (a.put o.dst v) w) : wpList P ops Q (o :: rest) a w := by
  refine wpList_plain hgd fun K hK => ?_
  have hrun := run_append_owned_none (P := P) (w := w) base t o.type e i size ht hi v n xs hown
  obtain ⟨A, n', c, rfl⟩ := ownsRow_slice hown
  rw [← append_types ht ht'] at hrun
  unfold Oper.wp
  simp [execOp, ho, resolve, invoke, builtin, hs, hx, hrun, Result.andThen]
  exact hK _ _ h
theorem wpList_append_own_at' {P : Program} {w : World} {ops : Array Oper} {rest : List Oper} {o : Oper} {a : Act} {Q : Exit → Act → World → Prop} (hgd : o.guard = none) (s x : Operand) (t t' e' : TypeId) (ht' : P.underlying t' = some (.slice e'))
    (ho : o.op = .call { callee := .builtin .append, args := #[s, x], argTypes := #[t, t'] })
    (base : Nat) (e : TypeId) (i : TypeInfo) (z : Value) (size bytes : Nat) (ht : P.underlying t = some (.slice e)) (hi : P.info? e = some i) (hz : i.zero = some z)
    (hsize : i.size = size) (hby : i.bytes = bytes) (hzs : z.cells.size = size) (hsz : 0 < size)
    (v : Value) (n : Nat) (xs : List Value) (hs : a.eval s = v) (hown : w.ownsRow base e size v n xs)
    (ad : Addr) (m c : Nat) (news : List Value) (hx : a.eval x = .slice (some ad) m c) (hl : news.length = m * size) (hnews : ∀ j u, news[j]? = some u → w.cell? (ad.add j) = some u) (h1 : ∀ u ∈ news, u.oneCell' = true)
    (h63 : n + m ≤ maxLen) (hbytes : (n + m) * bytes ≤ 140737488355328) (hbase : base ≤ w.heap.size)
    (h : ∀ v' w', w'.ownsRow base e size v' (n + m) (xs ++ news) → w.grownBy w' v.ownBlock → (v' = .slice none 0 0 ↔ v = .slice none 0 0 ∧ m = 0) → (v'.ownBlock = v.ownBlock ∨ v'.ownBlock = some w.heap.size) → wpList P ops Q rest (a.put o.dst v') w') :
    wpList P ops Q (o :: rest) a w := by
  refine wpList_plain hgd fun K hK => ?_
  obtain ⟨v', w', hr, h2, h3, h4, h5⟩ := run_append_own_at (P := P) w base t o.type e i z size bytes ht hi hz hsize hby hzs hsz v n xs hown ad m c news hl hnews h1 h63 hbytes hbase
  obtain ⟨A, n', c', rfl⟩ := ownsRow_slice hown
  rw [← append_types ht ht'] at hr
  unfold Oper.wp execOp
  simp only [ho, resolve, invoke, builtin, Sem.run_bind, Sem.run_pure, Result.andThen_ok, List.map_toArray, List.map_cons, List.map_nil, hs, hx, hr]
  exact hK _ _ (h v' w' h2 h3 h4 h5)
/-- append(s, x...) where s is the call's own, and what comes is readable and lies elsewhere. -/
theorem wpList_app' {P : Program} {w : World} {ops : Array Oper} {rest : List Oper} {o : Oper} {a : Act} {Q : Exit → Act → World → Prop} {t e : TypeId} {bytes : Nat} {α : Type} {K : Kd α} (E : Elem P t e K.size bytes) {t' e' : TypeId} (ht' : P.underlying t' = some (.slice e'))
    (hgd : o.guard = none) (s x : Operand) (ho : o.op = .call { callee := .builtin .append, args := #[s, x], argTypes := #[t, t'] })
    {B : Nat} {M : Blocks} {v y : Value} {xs ys : List α} (hs : a.eval s = v) (hx : a.eval x = y) (hown : Own K e B M w v xs) {by' : Nat} (hy : (KSl by' K).R (fun g => M g ∨ v.ownBlock = some g) w [y] ys)
    (hlen : (xs.length + ys.length) * bytes ≤ 140737488355328) (hlen2 : xs.length + ys.length ≤ 9223372036854775807) (hB : B ≤ w.heap.size) (hM : ∀ g, M g → g < w.heap.size)
    (h : ∀ v' w', Own K e B M w' v' (xs ++ ys) → w.grownBy w' v.ownBlock → (v'.ownBlock = v.ownBlock ∨ v'.ownBlock = some w.heap.size) → wpList P ops Q rest (a.put o.dst v') w') :
    wpList P ops Q (o :: rest) a w := by
  obtain ⟨i, z, hi, hz, hsize, hby, hzs⟩ := E.info
  obtain ⟨css, hcl, hrow, hr⟩ := hown
  obtain ⟨A, c, rfl, h1, h2, h3, h4, h5⟩ := KSl.val hy
  have hnone : A = none → ys = [] := fun e => by
    have := h4 e
    exact List.eq_nil_of_length_eq_zero (by omega)
  -- the new elements' cells
  have hnew : ∃ dss : List (List Value), dss.length = ys.length ∧ (∀ j (h1 : j < dss.length) (h2 : j < ys.length), K.R (fun g => M g ∨ v.ownBlock = some g) w dss[j] ys[j]) ∧
      ∀ ad, A = some ad → ∀ j u, dss.flatten[j]? = some u → w.cell? (ad.add j) = some u := by
    rcases Nat.eq_zero_or_pos ys.length with h0 | h0
    · exact ⟨[], h0.symm, fun j h1 => absurd h1 (by simp), fun ad _ j u hu => by simp at hu⟩
    · obtain ⟨ad, rfl, hlt, hnm, hc⟩ := h5 h0
      refine ⟨List.ofFn fun j : Fin ys.length => (hc j.val j.isLt).choose, by simp, fun j h1 h2 => ?_, fun ad' he j u hu => ?_⟩
      · rw [List.getElem_ofFn]
        exact (hc j h2).choose_spec.1
      · injection he with he
        subst he
        have hsz : ∀ c ∈ (List.ofFn fun j : Fin ys.length => (hc j.val j.isLt).choose), c.length = K.size := fun c hcm => by
          obtain ⟨q, rfl⟩ := (List.mem_ofFn).1 hcm
          exact K.len (hc q.val q.isLt).choose_spec.1
        have hlt2 : j < ys.length * K.size := by
          have := (List.getElem?_eq_some_iff.1 hu).1
          rw [List.length_flatten] at this
          have e : (List.map List.length (List.ofFn fun j : Fin ys.length => (hc j.val j.isLt).choose)) = List.replicate ys.length K.size := by
            apply List.eq_replicate_iff.2
            exact ⟨by simp, fun b hb => by obtain ⟨d, hd, rfl⟩ := List.mem_map.1 hb; exact hsz d hd⟩
          rw [e] at this
          simpa using this
        have hq : j / K.size < ys.length := Nat.div_lt_of_lt_mul (by rw [Nat.mul_comm]; exact hlt2)
        have hm := Nat.mod_lt j E.pos
        have hj : j = (j / K.size) * K.size + j % K.size := by rw [Nat.mul_comm]; exact (Nat.div_add_mod j K.size).symm
        have hu2 := hu
        rw [hj, flatten_get hsz (by simpa using hq) hm, List.getElem_ofFn] at hu2
        have := (hc (j / K.size) hq).choose_spec.2 (j % K.size) u hu2
        rw [add_of_add, ← hj] at this
        exact this
  obtain ⟨dss, hdl, hdr, hcells⟩ := hnew
  have hdlen : dss.flatten.length = ys.length * K.size := by
    rw [List.length_flatten]
    have e : dss.map List.length = List.replicate ys.length K.size := by
      apply List.eq_replicate_iff.2
      refine ⟨by simp [hdl], fun b hb => ?_⟩
      obtain ⟨d, hd, rfl⟩ := List.mem_map.1 hb
      obtain ⟨q, hq, rfl⟩ := List.getElem_of_mem hd
      exact K.len (hdr q hq (by omega))
    rw [e]; simp
  have hone : ∀ u ∈ dss.flatten, u.oneCell' = true := fun u hu => by
    obtain ⟨d, hd, hu⟩ := List.mem_flatten.1 hu
    obtain ⟨q, hq, rfl⟩ := List.getElem_of_mem hd
    exact K.one (hdr q hq (by omega)) u hu
  have fin : ∀ v' w', w'.ownsRow B e K.size v' (xs.length + ys.length) (css.flatten ++ dss.flatten) → w.grownBy w' v.ownBlock → (v'.ownBlock = v.ownBlock ∨ v'.ownBlock = some w.heap.size) → wpList P ops Q rest (a.put o.dst v') w' := fun v' w' ho hg hb => by
    refine h v' w' ⟨css ++ dss, by simp [hcl, hdl], by rw [List.flatten_append, List.length_append]; exact ho, fun q h1 h2 => ?_⟩ hg hb
    have key : ∀ cs (x : α), K.R (fun g => M g ∨ v.ownBlock = some g) w cs x → K.R (fun g => M g ∨ v'.ownBlock = some g) w' cs x := fun cs x hx => by
      have h1 := K.anti (M' := fun g => (M g ∨ v.ownBlock = some g) ∨ v'.ownBlock = some g) hx (fun g hg hm => by
        rcases hm with hm | hm
        · exact hm
        · rcases hb with hb | hb
          · rw [hb] at hm; exact .inr hm
          · rw [hb] at hm; injection hm with hm; omega)
      have h2 := K.keep h1 (w' := w') (fun g' hg' hn => hg.block g' hg' (fun e => hn (.inl (.inr e.symm))))
      exact K.anti h2 fun g' _ hm => hm.elim (fun hm => .inl (.inl hm)) .inr
    by_cases hq : q < css.length
    · rw [List.getElem_append_left hq, List.getElem_append_left (by omega)]
      exact key _ _ (hr q hq (by omega))
    · rw [List.getElem_append_right (by omega), List.getElem_append_right (by omega)]
      have h3 : q - css.length < dss.length := by rw [List.length_append] at h1; omega
      have h4 : q - xs.length < ys.length := by omega
      have := key _ _ (hdr (q - css.length) h3 (by omega))
      simp only [hcl] at this ⊢
      exact this
  cases A with
  | none =>
    have hy0 := hnone rfl
    subst hy0
    have hc0 := h4 rfl
    subst hc0
    have hd0 : dss = [] := List.eq_nil_of_length_eq_zero hdl
    subst hd0
    refine wpList_append_own_none' hgd s x t t' e' ht' ho B e i K.size E.und hi v xs.length css.flatten hs hrow hx ?_
    exact fin v w (by simpa using hrow) ⟨rfl, rfl, rfl, Nat.le_refl _, fun _ _ _ => rfl⟩ (.inl rfl)
  | some ad =>
    refine wpList_append_own_at' hgd s x t t' e' ht' ho B e i z K.size bytes E.und hi hz hsize hby hzs E.pos v xs.length css.flatten hs hrow ad ys.length c dss.flatten hx hdlen (hcells ad rfl) hone (by simp only [maxLen]; omega) hlen hB ?_
    intro v' w' ho hg _ hb
    exact fin v' w' ho hg hb

theorem elemByte : Elem Try.prog 37 5 KByte.size 1 := Elem.mk' (z := .int .u8 0) Try.underlying37 (by kernel_rfl) (by decide) rfl
/-- The closure of Join: is a row not of the shape's size? -/
theorem joinsize_any (v : Value) (r : Row) (b z m gb : Nat) (w : World) (h : KBs.R noB w [v] r) (hb : w.cell? ⟨gb, 1, none⟩ = some (.int .i64 z)) (hr : r.length = z) :
    Calls Try.prog 139 #[v, .pointer (some ⟨gb, 0, none⟩)] w fun e w' => e = .returned (.bool false) ∧ w = w' := by
  obtain ⟨A, cp, rfl, _⟩ := KSl.val h
  have hne : ((r.length : Int) != (z : Int)) = false := by rw [bne_eq_false_iff_eq]; omega
  clear hr
  go_enter Try.func139, Try.ntmps139
  go_wp2
  go_ret
  exact ⟨rfl, rfl⟩
theorem jsizes_any (v : Value) (rs : List Row) (z gb : Nat) (w : World) (h : KRows.R noB w [v] rs) (hb : w.cell? ⟨gb, 1, none⟩ = some (.int .i64 z)) (hr : ∀ r ∈ rs, r.length = z) :
    Calls Try.prog 138 #[v, .func (.func 139) #[] #[.pointer (some ⟨gb, 0, none⟩)]] w fun e w' => e = .returned (.bool false) ∧ Below w.heap.size w w' := by
  obtain ⟨A, c, rfl, hlc, hc, _, _, h5⟩ := KSl.val h
  have hgv : ∀ i (hi : i < rs.length), ∃ u, ∀ ad, A = some ad → w.cell? (ad.add i) = some u ∧ KBs.R noB w [u] rs[i] := fun i hi => by
    obtain ⟨ad, u, e, h1, h2⟩ := KRows.at_ h hi
    exact ⟨u, fun ad' e' => by rw [e] at e'; rw [← Option.some.inj e']; exact ⟨h1, h2⟩⟩
  have := contains_row 139 #[.pointer (some ⟨gb, 0, none⟩)] (enters_of Try.func139 (by kernel_rfl) rfl) A rs.length c (by omega) (fun i => if hi : i < rs.length then (hgv i hi).choose else undef) (fun _ => false) w (fun hp => by
    obtain ⟨ad, e, _⟩ := h5 hp
    refine ⟨ad, e, fun j hj => ?_⟩
    simp only [hj, dif_pos]
    exact ((hgv j hj).choose_spec ad e).1) (fun i hi W hW => by
    obtain ⟨ad, e, _⟩ := h5 (by omega)
    simp only [hi, dif_pos]
    have hs := ((hgv i hi).choose_spec ad e).2
    refine (joinsize_any _ rs[i] 0 z 0 gb W (Kd.below hs hW) (cell_below hW _ _ hb) (hr _ (List.getElem_mem hi))).mono ?_
    rintro e w' ⟨rfl, rfl⟩
    exact ⟨rfl, Below.refl _ _⟩)
  rwa [anyTo_false (fun _ _ => rfl)] at this

/-- All rows of the first n blocks. -/
def flatN (l : List (List Row)) (n : Nat) : List UInt8 := ((l.take n).flatten).flatten
/-- What blocks tell. -/
def joinS (s : Shp) (l : List (List Row)) : List UInt8 := (l.flatten.flatten).take s.b
structure Blocks.Fit (s : Shp) (l : List (List Row)) : Prop where
  n : l.length = blkN s
  k : ∀ i (h : i < l.length), l[i].length = kN s i
  z : ∀ rs ∈ l, ∀ r ∈ rs, r.length = s.z
theorem sumK (s : Shp) (h : s.Ok) : ∀ i, i ≤ blkN s → ((List.range i).map (kN s)).sum = i * (symN s / blkN s) + min i (symN s % blkN s) := by
  intro i
  induction i with
  | zero => intro _; simp
  | succ i ih =>
    intro hi
    rw [List.range_succ, List.map_append, List.sum_append, ih (by omega)]
    simp only [List.map_cons, List.map_nil, List.sum_cons, List.sum_nil, Nat.add_zero]
    have e : (i + 1) * (symN s / blkN s) = i * (symN s / blkN s) + symN s / blkN s := by rw [Nat.add_mul, Nat.one_mul]
    unfold kN
    split
    · rw [e, Nat.min_eq_left (by omega), Nat.min_eq_left (by omega)]; omega
    · rw [e, Nat.min_eq_right (by omega), Nat.min_eq_right (by omega)]; omega
theorem sumK_all (s : Shp) (h : s.Ok) : ((List.range (blkN s)).map (kN s)).sum = symN s := by
  have hb := blkN_le h
  rw [sumK s h _ (Nat.le_refl _), Nat.min_eq_right (Nat.le_of_lt (Nat.mod_lt _ (by omega)))]
  exact Nat.div_add_mod _ _
theorem symN_enough (s : Shp) (h : s.Ok) : s.b ≤ symN s * s.z := by
  unfold symN
  rw [Nat.add_mul, Nat.one_mul]
  have h1 := Nat.div_add_mod (s.b - 1) s.z
  have h2 := Nat.mod_lt (s.b - 1) h.z1
  rw [Nat.mul_comm] at h1
  have := h.b1
  omega
theorem flat_length {z : Nat} : ∀ (l : List Row), (∀ r ∈ l, r.length = z) → l.flatten.length = l.length * z
  | [], _ => by simp
  | r :: l, h => by
    rw [List.flatten_cons, List.length_append, flat_length l fun r hr => h r (List.mem_cons_of_mem _ hr), h r List.mem_cons_self, List.length_cons, Nat.add_mul, Nat.one_mul]; omega
theorem Blocks.Fit.total {s : Shp} {l : List (List Row)} (hs : s.Ok) (h : Blocks.Fit s l) : l.flatten.length = symN s := by
  rw [← sumK_all s hs, List.length_flatten]
  congr 1
  apply List.ext_getElem
  · simp [h.n]
  · intro i h1 h2
    simp only [List.getElem_map, List.getElem_range]
    exact h.k i (by simpa using h1)
theorem Blocks.Fit.bytes {s : Shp} {l : List (List Row)} (hs : s.Ok) (h : Blocks.Fit s l) : l.flatten.flatten.length = symN s * s.z := by
  rw [flat_length (z := s.z) _ fun r hr => by
    obtain ⟨rs, h1, h2⟩ := List.mem_flatten.1 hr
    exact h.z rs h1 r h2, h.total hs]
theorem Own.bytes {e : TypeId} {B : Nat} {M M' : Blocks} {w : World} {v : Value} {xs : List UInt8} (h : Own KByte e B M w v xs) : Own KByte e B M' w v xs := by
  obtain ⟨css, h1, h2, h3⟩ := h
  exact ⟨css, h1, h2, h3⟩
theorem KSl.recap {α : Type} {bytes : Nat} {K : Kd α} {M : Blocks} {w : World} {A : Option Addr} {c c' n : Nat} {l : List α} (h : (KSl bytes K).R M w [.slice A n c] l) (h0 : 0 < l.length) (h1 : n ≤ c') (h2 : c' ≤ 9223372036854775807) : (KSl bytes K).R M w [.slice A n c'] l := by
  obtain ⟨A', cc, e, g1, g2, g3, g4, g5⟩ := KSl.val h
  injection e with e1 e2 e3
  subst e1; subst e2; subst e3
  exact KSl.mk h1 h2 g3 (fun e => by obtain ⟨ad, e', _⟩ := g5 h0; rw [e] at e'; cases e') g5
theorem flatN_step {l : List (List Row)} {n : Nat} (h : n < l.length) : flatN l (n + 1) = flatN l n ++ l[n].flatten := by
  unfold flatN
  rw [List.take_succ_eq_append_getElem h, List.flatten_append, List.flatten_append]
  simp
theorem flatN_le (l : List (List Row)) (n : Nat) : (flatN l n).length ≤ l.flatten.flatten.length := by
  unfold flatN
  have h := List.take_append_drop n l
  conv => rhs; rw [← h]
  rw [List.flatten_append, List.flatten_append, List.length_append]
  omega
theorem KRowss.at_ {M : Blocks} {w : World} {A : Option Addr} {c : Nat} {l : List (List Row)} (h : KRowss.R M w [.slice A l.length c] l) {i : Nat} (hi : i < l.length) : ∃ ad u, A = some ad ∧ w.cell? (ad.add i) = some u ∧ KRows.R M w [u] l[i] := KSl.at1 h rfl hi

set_option maxRecDepth 100000 in
set_option maxHeartbeats 2000000 in
theorem join_any (s : Shp) (h : s.Ok) (v : Value) (l : List (List Row)) (hf : Blocks.Fit s l) (w : World) (hv : KRowss.R noB w [v] l) :
    Calls Try.prog 77 #[.agg #[.int .i64 s.b, .int .i64 s.z, .int .i64 s.m], v] w (RetE KBs (.slice none 0 0) w (.ok (joinS s l))) := by
  have hr := right_yes _ _ _ (Shp.right h)
  have hbl := blocks_yes s h
  have hk := k_yes s h
  have hkn := kN_le h
  have hbn := blkN_le h
  have hsn := symN_le h
  have hln := hf.n
  have hlk := hf.k
  have hlz := hf.z
  have htot := hf.bytes h
  have hen := symN_enough s h
  have hz2 := h.z2
  have hb1 := h.b1
  have hb2 := h.b2
  have hsz : symN s * s.z ≤ 4000 * 64 := Nat.mul_le_mul hsn.2 hz2
  obtain ⟨A, cp, rfl, -⟩ := KSl.val hv
  have hjs : joinS s l = (flatN l l.length).take s.b := by unfold joinS flatN; rw [List.take_of_length_le (Nat.le_refl _)]
  have hfle := flatN_le l
  have hfst := fun n (h : n < l.length) => flatN_step h
  have hfend : (flatN l l.length).length = symN s * s.z := by unfold flatN; rw [List.take_of_length_le (Nat.le_refl _)]; exact htot
  have hf0 : flatN l 0 = [] := by simp [flatN]
  have HJ : Hid (joinS s l = (flatN l l.length).take s.b) := hjs
  have HEND : Hid ((flatN l l.length).length = symN s * s.z) := hfend
  generalize joinS s l = out at *
  generalize flatN l = fl at *
  have HF0 : Hid (fl 0 = []) := hf0
  have HFS : Hid (∀ n (h : n < l.length), fl (n + 1) = fl n ++ l[n].flatten) := hfst
  have HFL : Hid (∀ n, (fl n).length ≤ 256000) := fun n => by have := hfle n; rw [htot] at this; omega
  have HLN : Hid (l.length = blkN s) := hln
  have HLK : Hid (∀ i (h : i < l.length), l[i].length = kN s i) := hlk
  have HLZ : Hid (∀ rs ∈ l, ∀ r ∈ rs, r.length = s.z) := hlz
  have HEN : Hid (s.b ≤ symN s * s.z) := hen
  have hll : l.length ≤ 4000 := by omega
  rw [← hln] at hbl hk
  have hne : ((l.length : Int) != (l.length : Int)) = false := by simp
  clear hjs hfend hf0 hfst hfle htot hlk hlz hen hln hsn hbn hf
  go_enter Try.func77, Try.ntmps77
  go_wp2_with fail
  refine (hr _).mono ?_
  rintro e w1 ⟨rfl, hb⟩
  have hx : Blk w1 w.heap.size 32 [.int .i64 s.b, .int .i64 s.z, .int .i64 s.m] := (Blk.new w _ _).below (hb.mono (Nat.le_refl _))
  have hb01 : Below w.heap.size w w1 := (below_one w _).trans (hb.mono (by simp))
  have hc0 := hx.cell 0
  have hc1 := hx.cell 1
  have hc2 := hx.cell 2
  simp only [List.getElem?_cons_zero, List.getElem?_cons_succ] at hc0 hc1 hc2
  have hlt := hx.lt
  clear hr
  go_wp2_with fail
  refine (hbl _).mono ?_
  rintro e w2 ⟨rfl, hb2'⟩
  have hx2 := hx.below hb2'
  have hb02 : Below w.heap.size w w2 := hb01.trans (hb2'.mono hb01.size)
  have hlt2 := hx2.lt
  have hsz02 := hb02.size
  clear hbl hx hc0 hc1 hc2 hlt hb hb01 hb2'
  go_wp2_with fail
  go_loopw [6, 23] (fun o i wr => ∃ n : Nat, n ≤ l.length ∧ i = .int .i64 n ∧ Own KByte 5 w2.heap.size noB wr o (fl n) ∧ Below w2.heap.size w2 wr) (fun _ i _ => l.length - (intOf i).toNat)
  case atStart => exact ⟨0, Nat.zero_le _, rfl, by rw [HF0.out]; exact Own.nil, Below.refl _ _⟩
  case round =>
    obtain ⟨n, hn, rfl, ho, hbel⟩ := hrel
    have hsz2 := hbel.size
    have hbw := hb02.trans (hbel.mono hsz02)
    have hxr := hx2.below hbel
    have hc0 := hxr.cell 0
    have hc1 := hxr.cell 1
    have hc2 := hxr.cell 2
    simp only [List.getElem?_cons_zero, List.getElem?_cons_succ] at hc0 hc1 hc2
    have hlt := hxr.lt
    by_cases hlt' : n < l.length
    · obtain ⟨ad, u, rfl, hcu, hu⟩ := KRowss.at_ hv hlt'
      have hcu' := cell_below hbw _ _ hcu
      have hkc := hk n hlt' wr
      have hln := HLK.out n hlt'
      have hlz := HLZ.out _ (List.getElem_mem hlt')
      have hst := HFS.out n hlt'
      rw [← hln] at hkc
      have hkb := hkn n
      rw [← hln] at hkb
      have HST : Hid (fl (n + 1) = fl n ++ l[n].flatten) := hst
      clear hst hln hcu hk hkn
      generalize l[n] = rs at *
      have HRZ : Hid (∀ r ∈ rs, r.length = s.z) := hlz
      have hnr : ((rs.length : Int) != (rs.length : Int)) = false := by simp
      have hjz := fun (W : World) (hW : Below w.heap.size w W) (hb : W.cell? ⟨w.heap.size, 1, none⟩ = some (.int .i64 s.z)) => jsizes_any u rs s.z w.heap.size W (Kd.below hu hW) hb HRZ.out
      obtain ⟨Ar, cr, rfl, -⟩ := KSl.val hu
      clear hlz
      obtain ⟨wo, rfl⟩ : ∃ wo : World, wo = wr := ⟨_, rfl⟩
      go_wp2_with fail
      refine hkc.mono ?_
      rintro e w3 ⟨rfl, hb3⟩
      have hbw3 := hbw.trans (hb3.mono hbw.size)
      have hd1 := cell_below hb3 _ _ hc1
      have hj3 := hjz w3 hbw3 hd1
      have ho3 := ho.below hb3
      have hsz3 := hb3.size
      clear hkc hjz hc0 hc1 hc2 ho
      go_wp2_with fail
      refine hj3.mono ?_
      rintro e w4 ⟨rfl, hb4⟩
      have hbw4 := hbw3.trans (hb4.mono hbw3.size)
      have ho4 := ho3.below hb4
      have hsz4 := hb4.size
      have hb24 : Below w2.heap.size w2 w4 := hbel.trans ((hb3.trans (hb4.mono hsz3)).mono hsz2)
      clear hj3 ho3 hd1
      go_wp2_with fail
      go_loopw [6, 10, 41] (fun o _ i wi => ∃ m : Nat, m ≤ rs.length ∧ i = .int .i64 m ∧ Own KByte 5 w2.heap.size noB wi o (fl n ++ (rs.take m).flatten) ∧ Below w2.heap.size w2 wi) (fun _ _ i _ => rs.length - (intOf i).toNat)
      case atStart => exact ⟨0, Nat.zero_le _, rfl, by simpa using ho4, hb24⟩
      case round =>
        obtain ⟨m, hm, rfl, hoi, hbi⟩ := hrel
        have hszi := hbi.size
        have hbwi := hb02.trans (hbi.mono hsz02)
        by_cases hmr : m < rs.length
        · obtain ⟨adr, ur, rfl, hcr, hur⟩ := KRows.at_ hu hmr
          have hcr' := cell_below hbwi _ _ hcr
          have hrl := HRZ.out _ (List.getElem_mem hmr)
          have hst : fl n ++ (rs.take (m + 1)).flatten = (fl n ++ (rs.take m).flatten) ++ rs[m] := by
            rw [List.take_succ_eq_append_getElem hmr, List.flatten_append, List.append_assoc]; simp
          have hlen : (fl n ++ (rs.take m).flatten).length ≤ 256000 := by
            have h1 := HFL.out (n + 1)
            rw [HST.out, List.length_append] at h1
            have h2 : (rs.take m).flatten.length ≤ rs.flatten.length := by
              conv => rhs; rw [← List.take_append_drop m rs, List.flatten_append, List.length_append]
              omega
            rw [List.length_append]; omega
          have HS2 : Hid (fl n ++ (rs.take (m + 1)).flatten = (fl n ++ (rs.take m).flatten) ++ rs[m]) := hst
          have HL2 : Hid ((fl n ++ (rs.take m).flatten).length ≤ 256000) := hlen
          obtain ⟨xs, hxs⟩ : ∃ xs, xs = fl n ++ (rs.take m).flatten := ⟨_, rfl⟩
          rw [← hxs] at HS2 HL2 hoi
          have hrlb : rs[m].length ≤ 64 := by omega
          have hnew : (KSl 1 KByte).R (fun g => noB g ∨ u6.ownBlock = some g) wr [ur] rs[m] := Kd.below (KBs.anti (M' := fun g => noB g ∨ u6.ownBlock = some g) hur fun g hg hm => by
            rcases hm with hm | hm
            · exact hm
            · have := (hoi.block hm).1; omega) hbwi
          obtain ⟨Au, cu, rfl, -⟩ := KSl.val hur
          clear hst hlen hxs hcr hur hrl
          generalize rs[m] = r at *
          go_wp2_with (at_builtin; refine wpList_app' elemByte (t' := 131) Try.underlying131 rfl _ _ rfl rfl rfl hoi hnew ?c1 ?c2 ?c3 ?c4 ?_)
          case c1 => have := HL2.out; omega
          case c2 => have := HL2.out; omega
          case c3 => omega
          case c4 => exact fun _ h => h.elim
          intro v' w6 ho6 hgrow hob
          rw [← HS2.out] at ho6
          have hb6 : Below w2.heap.size w2 w6 := hbi.grown hgrow hszi (fun g hg => (hoi.block hg).1)
          clear hnew hoi hgrow
          go_wp2
          go_roundw
          case rel => exact ⟨m + 1, by omega, by go_num, ho6, hb6⟩
          case measure => simp [intOf]; omega
        · have e : m = rs.length := by omega
          subst e
          rw [List.take_of_length_le (Nat.le_refl _), ← HST.out] at hoi
          go_wp2
          go_roundw
          case rel => exact ⟨n + 1, by omega, by go_num, hoi, hbi⟩
          case measure => simp [intOf]; omega
    · have e : n = l.length := by omega
      subst e
      have hlen := HEND.out
      have hbe := HEN.out
      have hfl2 := HFL.out l.length
      have hbl : s.b ≤ (fl l.length).length := by omega
      have hres := (ho.bytes (M' := old w)).sl (bytes := 1) (M' := old w) (by omega) (fun _ _ h => h) (fun g hg (hm : g < w.heap.size) => by have := (ho.block hg).1; omega)
      obtain ⟨A8, c8, rfl, hl8, hl9, -⟩ := KSl.val hres
      have htk := KBs.take hres s.b hbl
      rw [← HJ.out] at htk
      have hol : 0 < out.length := by rw [HJ.out, List.length_take]; omega
      have htk2 := KSl.recap htk hol (Nat.le_refl _) (by omega)
      have hbc : s.b ≤ c8 := by omega
      clear ho hres hlen hbe htk hol
      generalize (fl l.length).length = N at *
      go_wp2_with fail
      go_ret2
      exact RetE.mk_ hbw htk2
end Go.Proofs.Ytpdfcgkeclocoaa
