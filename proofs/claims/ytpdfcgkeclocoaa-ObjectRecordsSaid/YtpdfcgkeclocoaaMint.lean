/- The walks of package mint. -/
import Derived.Test.YtpdfcgkeclocoaaDecode
import Derived.Deep.MidRow
set_option linter.all false
namespace Go.Proofs.Ytpdfcgkeclocoaa
open Go.RowKit GF
attribute [local go_sem ↓] Go.wp_at_zero Go.wp_at_succ

/-- Cells of one block are all written. -/
theorem Blk.setCells {t : TypeId} : ∀ (vs : List Value) (o g : Nat) (w : World) (cs : List Value), Blk w g t cs → o + vs.length ≤ cs.length → Blk (w.setCells g o vs) g t (cs.take o ++ vs ++ cs.drop (o + vs.length)) ∧ Upd (fun b => b = g) w (w.setCells g o vs)
  | [], o, g, w, cs, h, _ => by
    refine ⟨?_, Upd.refl _ _⟩
    simpa [World.setCells] using h
  | v :: vs, o, g, w, cs, h, hl => by
    simp only [List.length_cons] at hl
    obtain ⟨h1, h2⟩ := Blk.setCells vs (o + 1) g (w.setCell ⟨g, o, none⟩ v) (cs.set o v) (h.set_ o v) (by rw [List.length_set]; omega)
    refine ⟨?_, (Upd.set_ w ⟨g, o, none⟩ v).trans h2⟩
    have hlo : (cs.take o).length = o := by rw [List.length_take]; omega
    have e1 : (cs.set o v).take (o + 1) = cs.take o ++ [v] := by
      rw [List.set_eq_take_append_cons_drop, if_pos (by omega : o < cs.length), List.take_append, hlo, List.take_of_length_le (by omega), show o + 1 - o = 1 by omega]
      rfl
    have e2 : (cs.set o v).drop (o + 1 + vs.length) = cs.drop (o + (v :: vs).length) := by
      rw [List.drop_set_of_lt (by omega), List.length_cons, show o + 1 + vs.length = o + (vs.length + 1) by omega]
    rw [e1, e2] at h1
    simpa [World.setCells] using h1
/-- A whole value is written. -/
theorem wpList_put {P : Program} {ops : Array Oper} {rest : List Oper} {op : Oper} {a : Act} {w : World} {Q : Exit → Act → World → Prop} (hgd : op.guard = none) (ty : TypeId) (x y : Operand) (ho : op.op = .store ty x y)
    {g : Nat} {tb : TypeId} {old new : List Value} (hx : a.eval x = .pointer (some ⟨g, 0, none⟩)) (hy : a.eval y = .agg new.toArray) (hb : Blk w g tb old) (hl : new.length = old.length)
    (hi : (P.info? ty).map (·.size) = some new.length) (h1 : ∀ u ∈ new, u.oneCell' = true) (h : ∀ w', Blk w' g tb new → Upd (fun b => b = g) w w' → wpList P ops Q rest (a.put op.dst undef) w') : wpList P ops Q (op :: rest) a w := by
  obtain ⟨k1, k2⟩ := Blk.setCells new 0 g w old hb (by omega)
  rw [Nat.zero_add, List.take_zero, List.nil_append, List.drop_of_length_le (by omega), List.append_nil] at k1
  refine wpList_store_mid hgd ty x y ho g 0 new.toArray hx hy (fun j hj => ?_) (by simpa using hi) (all_oneCell_toArray h1) (h _ k1 k2)
  rw [Nat.zero_add]
  refine ⟨?_, hb.frozen j⟩
  rw [hb.cell j]
  have : j < old.length := by simpa [hl] using hj
  simp [this]
theorem results_cell_tmp {fn : Func} {a t : Tmp} {ty : TypeId} (h : fn.results = #[.cell a ty, .tmp t]) (tmps : Array Value) (P : Program) (w : World) {g : Nat} {cs : List Value} {tb : TypeId} {d : TypeDesc} (ha : tmps.getD a undef = .pointer (some ⟨g, 0, none⟩))
    (hb : Blk w g tb cs) (hu : P.underlying ty = some d) (hd : d.isRow = true) (hi : (P.info? ty).map (·.size) = some cs.length) :
    (results fn tmps).run P w = .ok (.tuple #[.agg cs.toArray, tmps.getD t undef]) w := by
  have hr := run_loadVar_mid (P := P) w g 0 ty cs d (fun j v hv => by rw [Nat.zero_add, hb.cell j]; exact hv) hu hd hi
  have ha' : tmps[a]?.getD undef = .pointer (some ⟨g, 0, none⟩) := by simpa using ha
  simp [results, h, asAddr, ha', hr]

def esiO (a b : Int) : Nat := 40 + rand (UInt32.ofNat (a % 4294967296).toNat) (UInt32.ofNat (b % 4294967296).toNat) 16777176
theorem esi_any (a b : Int) (w : World) : Calls Try.prog 31 #[.int .i64 a, .int .i64 b] w fun e w' => e = .returned (.int .i64 (esiO a b)) ∧ w = w' := by
  have h := rand_any (UInt32.ofNat (a % 4294967296).toNat) (UInt32.ofNat (b % 4294967296).toNat) 16777176 (by decide) w
  have ho : esiO a b = 40 + rand (UInt32.ofNat (a % 4294967296).toNat) (UInt32.ofNat (b % 4294967296).toNat) 16777176 := rfl
  have hl := rand_lt (UInt32.ofNat (a % 4294967296).toNat) (UInt32.ofNat (b % 4294967296).toNat) 16777176 (by decide)
  generalize rand (UInt32.ofNat (a % 4294967296).toNat) (UInt32.ofNat (b % 4294967296).toNat) 16777176 = r at *
  have ea : ((UInt32.ofNat (a % 4294967296).toNat).toNat : Int) = a % 4294967296 := by
    rw [UInt32.toNat_ofNat_of_lt' (by show _ < 4294967296; omega)]; omega
  have eb : ((UInt32.ofNat (b % 4294967296).toNat).toNat : Int) = b % 4294967296 := by
    rw [UInt32.toNat_ofNat_of_lt' (by show _ < 4294967296; omega)]; omega
  rw [ea, eb] at h
  generalize esiO a b = out at *
  have HO : Hid (out = 40 + r) := ho
  clear ho ea eb
  go_enter Try.func31, Try.ntmps31
  go_wp2_with fail
  refine h.mono ?_
  rintro e w' ⟨rfl, rfl⟩
  go_wp2_with fail
  go_ret
  exact ⟨ret_int (by rw [HO.out]; omega), rfl⟩

/-- The records of one object. -/
def mineOf (ip iq : Int) (l : List RecD) : List RecD := l.filter fun r => decide (r.peer = ip) && decide (r.number = iq)
theorem mineOf_snoc (ip iq : Int) (l : List RecD) (r : RecD) : mineOf ip iq (l ++ [r]) = if decide (r.peer = ip) && decide (r.number = iq) then mineOf ip iq l ++ [r] else mineOf ip iq l := by
  unfold mineOf
  rw [List.filter_append]
  cases h : (decide (r.peer = ip) && decide (r.number = iq)) <;> simp [h]
theorem mineOf_length (ip iq : Int) (l : List RecD) : (mineOf ip iq l).length ≤ l.length := List.length_filter_le _ _
def freshW (n esi : Int) : Except Nat ObjD → Except Nat Row
  | .error q => .error q
  | .ok o => objSym o n esi
def freshV (s : Shp) (n esi : Int) : Except Nat (List UInt8) → Except Nat Row
  | .error q => .error q
  | .ok d => freshW n esi (newObj s d)
/-- What the symbol is that records make. -/
def freshO (s : Shp) (ip iq n esi : Int) (l : List RecD) : Except Nat Row := freshV s n esi (decodeO s (mineOf ip iq l))
theorem joinS_length {s : Shp} (hs : s.Ok) {bs : List (List Row)} (h : Blocks.Fit s bs) : (joinS s bs).length = s.b := by
  have h1 := h.bytes hs
  have h2 := symN_enough s hs
  unfold joinS
  rw [List.length_take]
  omega
theorem decodeO_length {s : Shp} (hs : s.Ok) {l : List RecD} {d : List UInt8} (h : decodeO s l = .ok d) : d.length = s.b := by
  unfold decodeO at h
  cases hg : decGo s l (blkN s) with
  | error q => rw [hg] at h; cases h
  | ok bs =>
    rw [hg] at h
    injection h with h
    rw [← h]
    obtain ⟨f1, f2, f3⟩ := decGo_fit hg
    exact joinS_length hs ⟨f1, f2, f3⟩
theorem decodeO_err {s : Shp} {l : List RecD} {q : Nat} (h : decodeO s l = .error q) : q = 1 ∨ q = 10 ∨ q = 5 ∨ q = 4 := by
  unfold decodeO at h
  suffices hh : ∀ n q, decGo s l n = .error q → q = 1 ∨ q = 10 ∨ q = 5 ∨ q = 4 by
    cases hg : decGo s l (blkN s) with
    | error q' =>
      rw [hg] at h
      injection h with h
      rw [← h]; exact hh _ _ hg
    | ok bs => rw [hg] at h; cases h
  intro n
  induction n with
  | zero => intro q h; cases h
  | succ n ih =>
    intro q h
    unfold decGo at h
    cases hg : decGo s l n with
    | error q' =>
      rw [hg] at h
      injection h with h
      rw [← h]; exact ih _ hg
    | ok bs =>
      rw [hg] at h
      simp only at h
      cases h2 : decB (kN s n) s.z (picks s.d n l) with
      | error q' =>
        rw [h2] at h
        injection h with h
        rw [← h]; exact decB_err h2
      | ok x => rw [h2] at h; cases h
theorem newObj_err {s : Shp} {d : List UInt8} {q : Nat} (h : newObj s d = .error q) : q = 5 ∨ q = 4 := by
  unfold newObj at h
  suffices hh : ∀ n q, objGo s.z (cutS s d) n = .error q → q = 5 ∨ q = 4 by
    cases hg : objGo s.z (cutS s d) (blkN s) with
    | error q' =>
      rw [hg] at h
      injection h with h
      rw [← h]; exact hh _ _ hg
    | ok bs => rw [hg] at h; cases h
  intro n
  induction n with
  | zero => intro q h; cases h
  | succ n ih =>
    intro q h
    unfold objGo at h
    cases hg : objGo s.z (cutS s d) n with
    | error q' =>
      rw [hg] at h
      injection h with h
      rw [← h]; exact ih _ hg
    | ok bs =>
      rw [hg] at h
      simp only at h
      cases h2 : newBlock s.z ((cutS s d).getD n []) with
      | error q' =>
        rw [h2] at h
        injection h with h
        rw [← h]; exact newBlock_err h2
      | ok x => rw [h2] at h; cases h
theorem newObj_blocks {s : Shp} {d : List UInt8} {o : ObjD} (h : newObj s d = .ok o) : o.bs.length = blkN s := by
  unfold newObj at h
  cases hg : objGo s.z (cutS s d) (blkN s) with
  | error q' => rw [hg] at h; cases h
  | ok bs =>
    rw [hg] at h
    injection h with h
    rw [← h]
    exact objGo_length hg
theorem objSym_err {o : ObjD} {n esi : Int} {q : Nat} (h : objSym o n esi = .error q) : q = 1 := by
  unfold objSym at h
  split at h
  · cases h
  · injection h with h; exact h.symm

theorem Shp.Ok.isInt {s : Shp} (h : s.Ok) : s.d.ok := by
  have h1 := h.b2
  have h2 := h.z2
  have h3 := h.m2
  refine ⟨?_, ?_, ?_⟩ <;> simp only [IsInt, Shp.d] <;> omega
def zeroRec : Value := .agg #[.int .i64 0, .int .i64 0, .int .i64 0, .int .i64 0, .int .i64 0, .int .i64 0, .int .i64 0, .bool false, .int .i64 0, .slice none 0 0]
/-- A record and an error. -/
def RetRec (w : World) (x : Except Nat RecD) (e : Ending) (w' : World) : Prop :=
  ∃ (cs : List Value) (n : Nat), e = .returned (.tuple #[.agg cs.toArray, .int .i64 n]) ∧ Below w.heap.size w w' ∧ (match x with | .ok y => KRec.R (old w) w' cs y ∧ n = 0 | .error q => Value.agg cs.toArray = zeroRec ∧ n = q)
def freshR (s : Shp) (ip iq n esi till : Int) : Except Nat Row → Except Nat RecD
  | .error q => .error q
  | .ok r => .ok ⟨ip, iq, s.d, n, esi, false, till, r⟩
theorem eq_id (a b c d : Int) (w : World) : (binOp .eql 36 (.agg #[.int .i64 a, .int .i64 b]) (.agg #[.int .i64 c, .int .i64 d])).run Try.prog w = .ok (.bool (decide (a = c) && decide (b = d))) w := by
  by_cases h1 : a = c
  · subst h1
    by_cases h2 : b = d
    · subst h2
      simp only [decide_true, Bool.and_self]
      go_simp
    · have e : (b == d) = false := by simpa using h2
      simp only [decide_true, decide_eq_false h2, Bool.and_false]
      clear h2
      go_simp
  · have e : (a == c) = false := by simpa using h1
    simp only [decide_eq_false h1, Bool.false_and]
    clear h1
    go_simp

set_option maxRecDepth 100000 in
set_option maxHeartbeats 4000000 in
theorem fresh_any (s : Shp) (h : s.Ok) (ip iq n esi till : Int) (v : Value) (l : List RecD) (w : World) (hip : IsInt ip) (hiq : IsInt iq) (hn : IsInt n) (hesi : IsInt esi) (htl : IsInt till) (hl : KRecs.R noB w [v] l) (hlen : l.length ≤ 100000) :
    Calls Try.prog 88 #[.agg #[.int .i64 ip, .int .i64 iq], .agg #[.int .i64 s.b, .int .i64 s.z, .int .i64 s.m], .int .i64 n, .int .i64 esi, .int .i64 till, v] w (RetRec w (freshR s ip iq n esi till (freshO s ip iq n esi l))) := by
  have hdec := fun (v : Value) (W : World) (hW : KRecs.R noB W [v] (mineOf ip iq l)) (hn : (mineOf ip iq l).length ≤ 100000) => decode_any s h v (mineOf ip iq l) W hW hn
  have hde := fun q => decodeO_err (s := s) (l := mineOf ip iq l) (q := q)
  have hdl := fun d => decodeO_length h (l := mineOf ip iq l) (d := d)
  have hbn := blkN_le h
  have hsn := symN_le h
  have HF : Hid (freshO s ip iq n esi l = freshV s n esi (decodeO s (mineOf ip iq l))) := rfl
  have hz0 := h.b2
  have HEI : Hid (∀ a b c d (w : World), (binOp .eql 36 (.agg #[.int .i64 a, .int .i64 b]) (.agg #[.int .i64 c, .int .i64 d])).run Try.prog w = .ok (.bool (decide (a = c) && decide (b = d))) w) := eq_id
  obtain ⟨A, cp, rfl, -⟩ := KSl.val hl
  have hb0 := Blk.new w 36 [.int .i64 ip, .int .i64 iq]
  have hl0 : Below w.heap.size w (w.alloc (.cells #[.int .i64 ip, .int .i64 iq] 36)) := below_one w _
  go_enter Try.func88, Try.ntmps88
  go_upto_region 1 with fail
  generalize hwa : ((w.alloc (.cells #[.int .i64 ip, .int .i64 iq] 36)).alloc (.cells #[.int .i64 s.b, .int .i64 s.z, .int .i64 s.m] 32)).alloc (.cells #[.int .i64 0, .int .i64 0, .int .i64 0, .int .i64 0, .int .i64 0, .int .i64 0, .int .i64 0, .bool false, .int .i64 0, .slice none 0 0] 39) = wl at *
  have hk0 : Blk wl w.heap.size 36 [.int .i64 ip, .int .i64 iq] := by rw [← hwa]; exact (hb0.alloc _).alloc _
  have hk1 : Blk wl (w.heap.size + 1) 32 [.int .i64 s.b, .int .i64 s.z, .int .i64 s.m] := by
    rw [← hwa]
    have := (Blk.new (w.alloc (.cells #[.int .i64 ip, .int .i64 iq] 36)) 32 [.int .i64 s.b, .int .i64 s.z, .int .i64 s.m]).alloc (.cells #[.int .i64 0, .int .i64 0, .int .i64 0, .int .i64 0, .int .i64 0, .int .i64 0, .int .i64 0, .bool false, .int .i64 0, .slice none 0 0] 39)
    simpa using this
  have hk2 : Blk wl (w.heap.size + 1 + 1) 39 [.int .i64 0, .int .i64 0, .int .i64 0, .int .i64 0, .int .i64 0, .int .i64 0, .int .i64 0, .bool false, .int .i64 0, .slice none 0 0] := by
    rw [← hwa]
    have := Blk.new ((w.alloc (.cells #[.int .i64 ip, .int .i64 iq] 36)).alloc (.cells #[.int .i64 s.b, .int .i64 s.z, .int .i64 s.m] 32)) 39 [.int .i64 0, .int .i64 0, .int .i64 0, .int .i64 0, .int .i64 0, .int .i64 0, .int .i64 0, .bool false, .int .i64 0, .slice none 0 0]
    simpa using this
  have hbw : Below w.heap.size w wl := by rw [← hwa]; exact (hl0.alloc (by simp) _).alloc (by simp; omega) _
  have hszl : wl.heap.size = w.heap.size + 1 + 1 + 1 := by rw [← hwa]; simp
  have HSL : Hid (wl.heap.size = w.heap.size + 1 + 1 + 1) := hszl
  have hlw : w.heap.size < wl.heap.size := by omega
  have hlw1 : w.heap.size + 1 < wl.heap.size := by omega
  have hlw2 : w.heap.size + 1 + 1 < wl.heap.size := by omega
  clear hwa hb0 hl0 hszl
  generalize hg1 : w.heap.size + 1 = g1 at *
  generalize hg2 : g1 + 1 = g2 at *
  have HG1 : Hid (w.heap.size + 1 = g1) := hg1
  have HG2 : Hid (g1 + 1 = g2) := hg2
  clear hg1 hg2
  go_wp2_with fail
  go_loopw [14, 23] (fun d i wi => ∃ m : Nat, m ≤ l.length ∧ i = .int .i64 m ∧ Own KRec 39 wl.heap.size noB wi d (mineOf ip iq (l.take m)) ∧ Below wl.heap.size wl wi) (fun _ i _ => l.length - (intOf i).toNat)
  case atStart => exact ⟨0, Nat.zero_le _, rfl, Own.nil, Below.refl _ _⟩
  case round =>
    obtain ⟨m, hm, rfl, hd, hbi⟩ := hrel
    have hszi := hbi.size
    have hbwi := hbw.trans (hbi.mono hbw.size)
    have hxi := hk0.below hbi
    have hd0 := hxi.cell 0
    have hd1 := hxi.cell 1
    simp only [List.getElem?_cons_zero, List.getElem?_cons_succ] at hd0 hd1
    have hlti := hxi.lt
    by_cases hml : m < l.length
    · obtain ⟨ad, u, rfl, hu, hok, q0, q1, q2, q3, q4, q5, q6, q7, q8, q9⟩ := KRecs.at_ hl hml
      have r0 := cell_below hbwi _ _ q0
      have r1 := cell_below hbwi _ _ q1
      have r2 := cell_below hbwi _ _ q2
      have r3 := cell_below hbwi _ _ q3
      have r4 := cell_below hbwi _ _ q4
      have r5 := cell_below hbwi _ _ q5
      have r6 := cell_below hbwi _ _ q6
      have r7 := cell_below hbwi _ _ q7
      have r8 := cell_below hbwi _ _ q8
      have r9 := cell_below hbwi _ _ q9
      have hst := mineOf_snoc ip iq (l.take m) l[m]
      rw [← List.take_succ_eq_append_getElem hml] at hst
      have hpl := mineOf_length ip iq (l.take m)
      rw [List.length_take] at hpl
      have HS : Hid (mineOf ip iq (l.take (m + 1)) = if decide (l[m].peer = ip) && decide (l[m].number = iq) then mineOf ip iq (l.take m) ++ [l[m]] else mineOf ip iq (l.take m)) := hst
      clear hst q0 q1 q2 q3 q4 q5 q6 q7 q8 q9
      generalize mineOf ip iq (l.take m) = ps at *
      generalize l[m] = r at *
      have hpl2 : ps.length ≤ 1000000 := by omega
      obtain ⟨rp, rn, ⟨rb, rz, rm⟩, rbl, re, rg, rt, rd⟩ := r
      simp only at hu hok r0 r1 r2 r3 r4 r5 r6 r7 r8 r9 HS
      obtain ⟨Au, cu, rfl, -⟩ := KSl.val hu
      have hupd := hbi.trans ((below_one wr (.cells #[.int .i64 rp, .int .i64 rn, .int .i64 rb, .int .i64 rz, .int .i64 rm, .int .i64 rbl, .int .i64 re, .bool rg, .int .i64 rt, .slice Au rd.length cu] 39)).mono hszi)
      have hd' := hd.below (below_one wr (.cells #[.int .i64 rp, .int .i64 rn, .int .i64 rb, .int .i64 rz, .int .i64 rm, .int .i64 rbl, .int .i64 re, .bool rg, .int .i64 rt, .slice Au rd.length cu] 39))
      have heq := HEI.out rp rn ip iq
      by_cases hs : (decide (rp = ip) && decide (rn = iq)) = true
      · have HS2 : Hid (mineOf ip iq (l.take (m + 1)) = ps ++ [⟨rp, rn, ⟨rb, rz, rm⟩, rbl, re, rg, rt, rd⟩]) := by
          show _ = _
          rw [HS.out, if_pos hs]
        rw [hs] at heq
        have hub : ∀ g, u14.ownBlock = some g → wl.heap.size ≤ g := fun g hg => (hd.block hg).1
        have hsz0 := hbw.size
        have hlif : KRec.R (fun g => noB g ∨ u14.ownBlock = some g) (wr.alloc (.cells #[.int .i64 rp, .int .i64 rn, .int .i64 rb, .int .i64 rz, .int .i64 rm, .int .i64 rbl, .int .i64 re, .bool rg, .int .i64 rt, .slice Au rd.length cu] 39)) [.int .i64 rp, .int .i64 rn, .int .i64 rb, .int .i64 rz, .int .i64 rm, .int .i64 rbl, .int .i64 re, .bool rg, .int .i64 rt, .slice Au rd.length cu] ⟨rp, rn, ⟨rb, rz, rm⟩, rbl, re, rg, rt, rd⟩ :=
          ⟨_, rfl, Kd.below (KBs.anti (M' := fun g => noB g ∨ u14.ownBlock = some g) hu fun g hg hm => by
            rcases hm with h | h
            · exact h
            · have := hub g h; omega) (hbwi.trans ((below_one wr _).mono hbwi.size)), hok⟩
        have hbox := Blk.new wr 39 [.int .i64 rp, .int .i64 rn, .int .i64 rb, .int .i64 rz, .int .i64 rm, .int .i64 rbl, .int .i64 re, .bool rg, .int .i64 rt, .slice Au rd.length cu]
        have e0 := hbox.cell 0
        have e1 := hbox.cell 1
        have e2 := hbox.cell 2
        have e3 := hbox.cell 3
        have e4 := hbox.cell 4
        have e5 := hbox.cell 5
        have e6 := hbox.cell 6
        have e7 := hbox.cell 7
        have e8 := hbox.cell 8
        have e9 := hbox.cell 9
        simp only [List.getElem?_cons_zero, List.getElem?_cons_succ] at e0 e1 e2 e3 e4 e5 e6 e7 e8 e9
        have hlb := hbox.lt
        have hszb := hupd.size
        clear hbox hs HS hub hd hu HEI
        go_upto_region 6 with fail
        generalize wr.alloc (.cells #[.int .i64 rp, .int .i64 rn, .int .i64 rb, .int .i64 rz, .int .i64 rm, .int .i64 rbl, .int .i64 re, .bool rg, .int .i64 rt, .slice Au rd.length cu] 39) = wb at *
        go_wp2_with (at_builtin; refine wpList_app1 (w1 := wb) elemRec rfl _ _ rfl rfl rfl hd' hlif ?c1 ?c2 ?c3 ?c4 ?_)
        case c1 => omega
        case c2 => omega
        case c3 => exact hupd.size
        case c4 => exact fun g h => h.elim
        intro v' w6 hown2 hb6 hob2
        have hup2 := hupd.trans hb6
        clear hlif hd' hob2
        go_wp2_with fail
        go_roundw
        case rel => exact ⟨m + 1, by omega, by go_num, by rw [HS2.out]; exact hown2, hup2⟩
        case measure => simp [intOf]; omega
      · have hs' : (decide (rp = ip) && decide (rn = iq)) = false := by simpa using hs
        have HS2 : Hid (mineOf ip iq (l.take (m + 1)) = ps) := by
          show _ = _
          rw [HS.out, if_neg hs]
        rw [hs'] at heq
        clear hs hs' HS hd HEI
        go_wp2_with fail
        go_roundw
        case rel => exact ⟨m + 1, by omega, by go_num, by rw [HS2.out]; exact hd', hupd⟩
        case measure => simp [intOf]; omega
    · have e : m = l.length := by omega
      subst e
      rw [List.take_of_length_le (Nat.le_refl _)] at hd
      have hpl := mineOf_length ip iq l
      have hdl' := hd.sl (bytes := 96) (M' := noB) (by omega) (fun _ _ h => h.elim) (fun _ _ h => h)
      have hdc := hdec u14 wr hdl' (by omega)
      have hx1 := hk1.below hbi
      have hx2 := hk2.below hbi
      have hc0 := hx1.cell 0
      have hc1 := hx1.cell 1
      have hc2 := hx1.cell 2
      simp only [List.getElem?_cons_zero, List.getElem?_cons_succ] at hc0 hc1 hc2
      have hlt1 := hx1.lt
      have hlt2 := hx2.lt
      generalize decodeO s (mineOf ip iq l) = dd at *
      generalize hfo : freshO s ip iq n esi l = fo at *
      have HF2 : Hid (fo = freshV s n esi dd) := HF.out
      clear hd hdl' hdec hpl HF hfo
      go_wp2_with fail
      refine hdc.mono ?_
      rintro e w3 hr3
      cases dd with
      | error q =>
        obtain ⟨rfl, hb3⟩ := hr3.no_
        have hqq : ((q : Int) != 0) = true := by rcases hde q rfl with rfl | rfl | rfl | rfl <;> rfl
        have HN : Hid (fo = .error q) := HF2.out
        have hx3 := hx2.below hb3
        have hlt3 := hx3.lt
        have t0 := hx3.frozen
        have hbw3 := hbwi.trans (hb3.mono hbwi.size)
        clear hr3 hdc hde hdl
        go_wp2_with (refine wpList_put rfl 39 _ _ rfl (new := [.int .i64 0, .int .i64 0, .int .i64 0, .int .i64 0, .int .i64 0, .int .i64 0, .int .i64 0, .bool false, .int .i64 0, .slice none 0 0]) rfl rfl hx3 rfl (by kernel_rfl) (by decide) ?_)
        intro w4 hx4 hu4
        have hbw4 : Below w.heap.size w w4 := hbw3.trans ⟨hu4.os, hu4.tape, hu4.output, by have := hu4.size; have := hbw3.size; omega, fun b hb => hu4.block b (by have := hbw3.size; omega) (by have := HG1.out; have := HG2.out; omega)⟩
        go_wp2_with fail
        refine bodyPost_ret (results_cell_tmp rfl _ _ _ rfl hx4 Try.underlying39 rfl (by kernel_rfl)) rfl ?_
        rw [HN.out]
        exact ⟨_, q, rfl, hbw4, rfl, rfl⟩
      | ok d =>
        obtain ⟨v3, rfl, hb3, hv3⟩ := hr3.ok_
        have hdl3 := hdl d rfl
        have hnd := newObj_any s h v3 d w3 (Kd.drop hv3) hdl3
        have hne := fun q => newObj_err (s := s) (d := d) (q := q)
        have hnb := fun o => newObj_blocks (s := s) (d := d) (o := o)
        have HF3 : Hid (fo = freshW n esi (newObj s d)) := HF2.out
        obtain ⟨A3, c3, rfl, -⟩ := KSl.val hv3
        have hx13 := hx1.below hb3
        have hx23 := hx2.below hb3
        have hx03 := hxi.below hb3
        have e0 := hx13.cell 0
        have e1 := hx13.cell 1
        have e2 := hx13.cell 2
        simp only [List.getElem?_cons_zero, List.getElem?_cons_succ] at e0 e1 e2
        have hlt3 := hx13.lt
        have hbw3 := hbwi.trans (hb3.mono hbwi.size)
        generalize newObj s d = no at *
        clear hr3 hdc hde hdl HF2 hv3 hdl3 hx1 hx2 hxi hc0 hc1 hc2
        go_wp2_with fail
        refine hnd.mono ?_
        rintro e w4 hr4
        cases no with
        | error q =>
          obtain ⟨rfl, hb4⟩ := hr4.no_
          have hqq : ((q : Int) != 0) = true := by rcases hne q rfl with rfl | rfl <;> rfl
          have HN : Hid (fo = .error q) := HF3.out
          have hx24 := hx23.below hb4
          have hbw4 := hbw3.trans (hb4.mono hbw3.size)
          clear hr4 hnd hne hnb
          go_wp2_with (refine wpList_put rfl 39 _ _ rfl (new := [.int .i64 0, .int .i64 0, .int .i64 0, .int .i64 0, .int .i64 0, .int .i64 0, .int .i64 0, .bool false, .int .i64 0, .slice none 0 0]) rfl rfl hx24 rfl (by kernel_rfl) (by decide) ?_)
          intro w5 hx5 hu5
          have hbw5 : Below w.heap.size w w5 := hbw4.trans ⟨hu5.os, hu5.tape, hu5.output, by have := hu5.size; have := hbw4.size; omega, fun b hb => hu5.block b (by have := hbw4.size; omega) (by have := HG1.out; have := HG2.out; omega)⟩
          go_wp2_with fail
          refine bodyPost_ret (results_cell_tmp rfl _ _ _ rfl hx5 Try.underlying39 rfl (by kernel_rfl)) rfl ?_
          rw [HN.out]
          exact ⟨_, q, rfl, hbw5, rfl, rfl⟩
        | ok o =>
          obtain ⟨v4, rfl, hb4, hv4⟩ := hr4.ok_
          have hob := hnb o rfl
          have hsy := objSym_any v4 o n esi w4 (Kd.drop hv4) (by omega)
          have hse := fun q => objSym_err (o := o) (n := n) (esi := esi) (q := q)
          have HF4 : Hid (fo = objSym o n esi) := HF3.out
          obtain ⟨g4, _, rfl, -⟩ := KPtr.val hv4
          have hx14 := hx13.below hb4
          have hx24 := hx23.below hb4
          have hx04 := hx03.below hb4
          have hbw4 := hbw3.trans (hb4.mono hbw3.size)
          generalize objSym o n esi = sy at *
          clear hr4 hnd hne hnb HF3 hv4 hx13 hx23 hx03 e0 e1 e2
          go_wp2_with fail
          refine hsy.mono ?_
          rintro e w5 hr5
          cases sy with
          | error q =>
            obtain ⟨rfl, hb5⟩ := hr5.no_
            have hqq : ((q : Int) != 0) = true := by rw [hse q rfl]; rfl
            have HN : Hid (fo = .error q) := HF4.out
            have hx25 := hx24.below hb5
            have hbw5 := hbw4.trans (hb5.mono hbw4.size)
            clear hr5 hsy hse
            go_wp2_with (refine wpList_put rfl 39 _ _ rfl (new := [.int .i64 0, .int .i64 0, .int .i64 0, .int .i64 0, .int .i64 0, .int .i64 0, .int .i64 0, .bool false, .int .i64 0, .slice none 0 0]) rfl rfl hx25 rfl (by kernel_rfl) (by decide) ?_)
            intro w6 hx6 hu6
            have hbw6 : Below w.heap.size w w6 := hbw5.trans ⟨hu6.os, hu6.tape, hu6.output, by have := hu6.size; have := hbw5.size; omega, fun b hb => hu6.block b (by have := hbw5.size; omega) (by have := HG1.out; have := HG2.out; omega)⟩
            go_wp2_with fail
            refine bodyPost_ret (results_cell_tmp rfl _ _ _ rfl hx6 Try.underlying39 rfl (by kernel_rfl)) rfl ?_
            rw [HN.out]
            exact ⟨_, q, rfl, hbw6, rfl, rfl⟩
          | ok r =>
            obtain ⟨v5, rfl, hb5, hv5⟩ := hr5.ok_
            have HN : Hid (fo = .ok r) := HF4.out
            have hx15 := hx14.below hb5
            have hx25 := hx24.below hb5
            have hx05 := hx04.below hb5
            have e0 := hx15.cell 0
            have e1 := hx15.cell 1
            have e2 := hx15.cell 2
            have e3 := hx05.cell 0
            have e4 := hx05.cell 1
            simp only [List.getElem?_cons_zero, List.getElem?_cons_succ] at e0 e1 e2 e3 e4
            have hlt5 := hx15.lt
            have hlt05 := hx05.lt
            have hbw5 := hbw4.trans (hb5.mono hbw4.size)
            have hbs5 := hbw5.size
            have hbs4 := hbw4.size
            obtain ⟨A5, c5, rfl, -⟩ := KSl.val hv5
            clear hr5 hsy hse
            go_wp2_with (refine wpList_put rfl 39 _ _ rfl (new := [.int .i64 ip, .int .i64 iq, .int .i64 s.b, .int .i64 s.z, .int .i64 s.m, .int .i64 n, .int .i64 esi, .bool false, .int .i64 till, .slice A5 r.length c5]) rfl rfl hx25 rfl (by kernel_rfl) (by simp [Value.oneCell']) ?_)
            intro w6 hx6 hu6
            have hbw6 : Below w.heap.size w w6 := hbw5.trans ⟨hu6.os, hu6.tape, hu6.output, by have := hu6.size; omega, fun b hb => hu6.block b (by omega) (by have := HG1.out; have := HG2.out; omega)⟩
            have hv6 := Kd.upd (KBs.anti (M' := fun g => g < w.heap.size ∨ g = g2) hv5 fun g hg hm => by
              have := HG1.out
              have := HG2.out
              show g < w4.heap.size
              have := hx24.lt
              omega) (hu6.mono fun g hg (h : g = g2) => .inr h)
            go_wp2_with fail
            refine bodyPost_ret (results_cell_tmp rfl _ _ _ rfl hx6 Try.underlying39 rfl (by kernel_rfl)) rfl ?_
            rw [HN.out]
            have hI := h.isInt
            exact ⟨_, 0, rfl, hbw6, ⟨_, rfl, KBs.anti (M' := old w) hv6 fun g hg hm => .inl hm, hip, hiq, hI, hn, hesi, htl⟩, rfl⟩
end Go.Proofs.Ytpdfcgkeclocoaa
