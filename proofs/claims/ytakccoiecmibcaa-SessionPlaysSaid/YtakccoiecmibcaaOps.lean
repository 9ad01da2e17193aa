/- Scripts of calls, as they lie in memory: opened; light, first. -/
import Derived.Test.YtakccoiecmibcaaSes6
namespace Go.Proofs.Ytakccoiecmibcaa
open Go.RowKit Go.Maps Go.ChangeShapes Go.WideShapes Go.ChangeAt

def encO (x : OpD) : List Value := [.int .i64 x.call, .int .i64 x.now, sV x.id, sV x.user, sV x.tenant, sV x.device, sV x.client, .slice x.pa x.proofs.length x.pc]
/-- The calls of a slice. -/
structure OpsAt (w : World) (a : Option Addr) (l : List OpD) : Prop where
  cells : ListAt 8 encO w a l
  lists : ∀ x ∈ l, PrfsAt w x.pa x.proofs
theorem OpsAt.keptN {w w' : World} {a : Option Addr} {l : List OpD} (h : OpsAt w a l) (k : Kept [] w w') : OpsAt w' a l := ⟨h.cells.keptN k, fun x hx => (h.lists x hx).keptN k⟩
/-- A call in eight cells. -/
structure OpCells (w : World) (b o : Nat) (x : OpD) : Prop where
  c0 : w.cell? ⟨b, o, none⟩ = some (.int .i64 x.call)
  c1 : w.cell? ⟨b, o + 1, none⟩ = some (.int .i64 x.now)
  c2 : w.cell? ⟨b, o + 2, none⟩ = some (.string ⟨x.id.toArray⟩)
  c3 : w.cell? ⟨b, o + 3, none⟩ = some (.string ⟨x.user.toArray⟩)
  c4 : w.cell? ⟨b, o + 4, none⟩ = some (.string ⟨x.tenant.toArray⟩)
  c5 : w.cell? ⟨b, o + 5, none⟩ = some (.string ⟨x.device.toArray⟩)
  c6 : w.cell? ⟨b, o + 6, none⟩ = some (.string ⟨x.client.toArray⟩)
  c7 : w.cell? ⟨b, o + 7, none⟩ = some (.slice x.pa x.proofs.length x.pc)
theorem OpsAt.get {w : World} {a : Option Addr} {l : List OpD} (h : OpsAt w a l) {i : Nat} (hi : i < l.length) : ∃ b off, a = some ⟨b, off, none⟩ ∧ b < w.heap.size ∧ OpCells w b (off + i * 8) l[i] ∧ PrfsAt w l[i].pa l[i].proofs := by
  obtain ⟨b, off, e, hb, hc⟩ := h.cells.at hi
  exact ⟨b, off, e, hb, ⟨by have := hc 0 _ rfl; rwa [Nat.add_zero] at this, hc 1 _ rfl, hc 2 _ rfl, hc 3 _ rfl, hc 4 _ rfl, hc 5 _ rfl, hc 6 _ rfl, hc 7 _ rfl⟩, h.lists _ (List.getElem_mem hi)⟩

/-- A slice in a cell. -/
theorem slice_cell {H : Type} {enc : TypeId × Value → H} {w : World} {t e : TypeId} {n : Nat} {c : Value} {y : DataW H × List MemPlace} (ht : Try.prog.underlying t = some (.slice e)) (h : DataW.trod enc Try.prog w 0 (fun _ => true) true n t [c] = some y) : ∃ a len cap, c = .slice a len cap ∧ DataW.Trod enc Try.prog w 0 (fun _ => true) true t (.slice a len cap) y.1 y.2 := by
  have h0 := h
  rcases Deep.open_slice ht h with ⟨hcs, _⟩ | ⟨ad, l, c', m, n', D, Pl, hcs, _⟩
  · simp at hcs
    subst hcs
    exact ⟨none, 0, 0, rfl, n, by simpa [Value.cells] using h0⟩
  · simp at hcs
    subst hcs
    exact ⟨some ad, l, c', rfl, n, by simpa [Value.cells] using h0⟩
set_option maxRecDepth 100000 in
theorem prfs_open {H : Type} {enc : TypeId × Value → H} {w : World} {a : Option Addr} {len cap : Nat} {d : DataW H} {p : List MemPlace}
    (h : DataW.Trod enc Try.prog w 0 (fun _ => true) true 28 (.slice a len cap) d p) : ∃ l : List Prf, l.length = len ∧ PrfsAt w a l := by
  obtain ⟨h1, h2, h3⟩ := slice_open Try.underlying28 (sz := 2) (by kernel_rfl) (by omega) h
  rcases h3 with h3 | ⟨b, off, ha, hb, hel⟩
  · exact ⟨[], h3.symm, list_nil w a⟩
  · obtain ⟨l, hl, hp⟩ := list_of (α := Prf) (p := fun i x => CEnc encP w b (off + i * 2) x) (fun i hi => by
      obtain ⟨cs, y, n, e1, e2, e3⟩ := hel i hi
      obtain ⟨xs, m, _, _, _, hlen, hf⟩ := DataW.trod_struct Try.underlying59 e3
      have hlen2 : xs.length = 2 := hlen
      have zi : Try.prog.cellsOf 57 = 1 := by kernel_rfl
      have zj : Try.prog.cellsOf 3 = 1 := by kernel_rfl
      have f0 := hf 0 _ rfl
      have f1 := hf 1 _ rfl
      match cs, e1, xs, hlen2 with
      | [c0, c1], _, [x0, x1], _ =>
        obtain ⟨n0, e0, _⟩ := DataW.trod_int Try.underlying57 f0
        obtain ⟨n1, e1, _⟩ := DataW.trod_int Try.underlying3 f1
        have k0 : c0 = .int .i64 n0 := by simpa [zi, zj] using e0
        have k1 : c1 = .int .i64 n1 := by simpa [zi, zj] using e1
        refine ⟨(n0, n1), fun j v hv => ?_⟩
        have hj : j < 2 := by
          rcases Nat.lt_or_ge j 2 with h1 | h1
          · exact h1
          · rw [List.getElem?_eq_none (by simp [encP]; omega)] at hv; cases hv
        rw [e2 j hj, ← hv, k0, k1]
        simp [encP])
    exact ⟨l, hl, ⟨.inr ⟨b, off, ha, hb, fun i hi => hp i hi⟩, by omega⟩⟩
set_option maxRecDepth 100000 in
/-- The eight fields of a call. -/
theorem op_fields {H : Type} {enc : TypeId × Value → H} {w : World} {n : Nat} {cs : List Value} {y : DataW H × List MemPlace} (hl : cs.length = 8) (h : DataW.trod enc Try.prog w 0 (fun _ => true) true n 49 cs = some y) :
    ∃ x : OpD, cs = encO x ∧ PrfsAt w x.pa x.proofs := by
  obtain ⟨xs, m, _, _, _, hlen, hf⟩ := DataW.trod_struct Try.underlying49 h
  have hlen8 : xs.length = 8 := hlen
  have zi : Try.prog.cellsOf 9 = 1 := by kernel_rfl
  have zj : Try.prog.cellsOf 3 = 1 := by kernel_rfl
  have zl : Try.prog.cellsOf 28 = 1 := by kernel_rfl
  have f0 := hf 0 _ rfl
  have f1 := hf 1 _ rfl
  have f2 := hf 2 _ rfl
  have f3 := hf 3 _ rfl
  have f4 := hf 4 _ rfl
  have f5 := hf 5 _ rfl
  have f6 := hf 6 _ rfl
  have f7 := hf 7 _ rfl
  match cs, hl, xs, hlen8 with
  | [c0, c1, c2, c3, c4, c5, c6, c7], _, [x0, x1, x2, x3, x4, x5, x6, x7], _ =>
    obtain ⟨n0, e0, _⟩ := DataW.trod_int Try.underlying3 f0
    obtain ⟨n1, e1, _⟩ := DataW.trod_int Try.underlying3 f1
    obtain ⟨n2, e2, _⟩ := DataW.trod_string Try.underlying9 f2
    obtain ⟨n3, e3, _⟩ := DataW.trod_string Try.underlying9 f3
    obtain ⟨n4, e4, _⟩ := DataW.trod_string Try.underlying9 f4
    obtain ⟨n5, e5, _⟩ := DataW.trod_string Try.underlying9 f5
    obtain ⟨n6, e6, _⟩ := DataW.trod_string Try.underlying9 f6
    have k0 : c0 = .int .i64 n0 := by simpa [zj] using e0
    have k1 : c1 = .int .i64 n1 := by simpa [zj] using e1
    have k2 : c2 = .string n2 := by simpa [zi, zj] using e2
    have k3 : c3 = .string n3 := by simpa [zi, zj] using e3
    have k4 : c4 = .string n4 := by simpa [zi, zj] using e4
    have k5 : c5 = .string n5 := by simpa [zi, zj] using e5
    have k6 : c6 = .string n6 := by simpa [zi, zj] using e6
    have g7 : DataW.trod enc Try.prog w 0 (fun _ => true) true m 28 [c7] = some x7 := by simpa [zi, zj, zl] using f7
    obtain ⟨sa, sn, sc, rfl, hs⟩ := slice_cell Try.underlying28 g7
    obtain ⟨sl, rfl, hsl⟩ := prfs_open hs
    exact ⟨⟨n0, n1, n2.data.toList, n3.data.toList, n4.data.toList, n5.data.toList, n6.data.toList, sl, sa, sc⟩, by rw [k0, k1, k2, k3, k4, k5, k6]; simp [encO, sV], hsl⟩
theorem ops_open {H : Type} {enc : TypeId × Value → H} {w : World} {a : Option Addr} {len cap : Nat} {d : DataW H} {p : List MemPlace}
    (h : DataW.Trod enc Try.prog w 0 (fun _ => true) true 41 (.slice a len cap) d p) : ∃ l : List OpD, l.length = len ∧ OpsAt w a l := by
  obtain ⟨h1, h2, h3⟩ := slice_open Try.underlying41 (sz := 8) (by kernel_rfl) (by omega) h
  rcases h3 with h3 | ⟨b, off, ha, hb, hel⟩
  · exact ⟨[], h3.symm, list_nil w a, by simp⟩
  · obtain ⟨l, hl, hp⟩ := list_of (α := OpD) (p := fun i x => CEnc encO w b (off + i * 8) x ∧ PrfsAt w x.pa x.proofs) (fun i hi => by
      obtain ⟨cs, y, n, e1, e2, e3⟩ := hel i hi
      obtain ⟨x, rfl, hx⟩ := op_fields e1 e3
      refine ⟨x, fun j v hv => ?_, hx⟩
      have hj : j < 8 := by
        rcases Nat.lt_or_ge j 8 with h1 | h1
        · exact h1
        · rw [List.getElem?_eq_none (by simp [encO]; omega)] at hv; cases hv
      rw [e2 j hj, ← hv])
    exact ⟨l, hl, ⟨.inr ⟨b, off, ha, hb, fun i hi => (hp i hi).1⟩, by omega⟩, fun x hx => by obtain ⟨i, hi, rfl⟩ := List.getElem_of_mem hx; exact (hp i hi).2⟩

/-! ### light -/
def bigB (x : OpD) : Bool := decide (200 < x.id.length) || decide (200 < x.user.length) || decide (200 < x.tenant.length) || decide (200 < x.device.length) || decide (200 < x.client.length) || decide (8 < x.proofs.length)
def lightB (l : List OpD) : Bool := !((l.take 24).any bigB) && decide (l.length ≤ 24)
/-- What the walks ask of a call. -/
structure Small (x : OpD) : Prop where
  id : x.id.length ≤ 200
  user : x.user.length ≤ 200
  tenant : x.tenant.length ≤ 200
  device : x.device.length ≤ 200
  client : x.client.length ≤ 200
  prfs : x.proofs.length ≤ 8
theorem small_of {x : OpD} (h : bigB x = false) : Small x := by
  unfold bigB at h
  simp only [Bool.or_eq_false_iff, decide_eq_false_iff_not] at h
  exact ⟨by omega, by omega, by omega, by omega, by omega, by omega⟩
theorem light_ok {l : List OpD} (h : lightB l = true) : l.length ≤ 24 ∧ ∀ x ∈ l, Small x := by
  unfold lightB at h
  simp only [Bool.and_eq_true, Bool.not_eq_true', decide_eq_true_eq] at h
  refine ⟨h.2, fun x hx => small_of ?_⟩
  have := h.1
  rw [List.take_of_length_le (by omega)] at this
  exact Bool.eq_false_iff.2 (fun e => by rw [List.any_eq_true.2 ⟨x, hx, e⟩] at this; cases this)
theorem Small.ids {x : OpD} (h : Small x) : (⟨x.id.toArray⟩ : ByteArray).size ≤ maxLen ∧ (⟨x.user.toArray⟩ : ByteArray).size ≤ maxLen ∧ (⟨x.tenant.toArray⟩ : ByteArray).size ≤ maxLen ∧ (⟨x.device.toArray⟩ : ByteArray).size ≤ maxLen ∧ (⟨x.client.toArray⟩ : ByteArray).size ≤ maxLen := by
  have h1 := h.id; have h2 := h.user; have h3 := h.tenant; have h4 := h.device; have h5 := h.client
  rw [size_str, size_str, size_str, size_str, size_str]
  unfold maxLen
  omega
theorem eight_cells {w : World} {b : Nat} {t : TypeId} {v0 v1 v2 v3 v4 v5 v6 v7 : Value} (h : w.heap[b]? = some (.cells #[v0, v1, v2, v3, v4, v5, v6, v7] t (0, 0))) :
    w.cell? ⟨b, 0, none⟩ = some v0 ∧ w.cell? ⟨b, 1, none⟩ = some v1 ∧ w.cell? ⟨b, 2, none⟩ = some v2 ∧ w.cell? ⟨b, 3, none⟩ = some v3 ∧ w.cell? ⟨b, 4, none⟩ = some v4 ∧ w.cell? ⟨b, 5, none⟩ = some v5 ∧ w.cell? ⟨b, 6, none⟩ = some v6 ∧ w.cell? ⟨b, 7, none⟩ = some v7 := by
  refine ⟨?_, ?_, ?_, ?_, ?_, ?_, ?_, ?_⟩ <;> (rw [cell_at h]; rfl)
theorem NoneTo.take24 {l : List OpD} {k : Nat} (h : NoneTo bigB l k) (hk : l.length ≤ k ∨ 24 ≤ k) : (l.take 24).any bigB = false := by
  rw [List.any_eq_false]
  intro x hx
  obtain ⟨i, hi, rfl⟩ := List.getElem_of_mem hx
  simp at hi
  have := h i (by omega) (by omega)
  simpa using this
set_option maxHeartbeats 4000000 in
set_option maxRecDepth 100000 in
theorem light_any {w : World} {a : Option Addr} {cap : Nat} {l : List OpD} (h : OpsAt w a l) :
    Calls Try.prog 18 #[.slice a l.length cap] w fun e w' => e = .returned (.bool (lightB l)) ∧ Kept [] w w' := by
  have hf := h.cells.few
  unfold maxLen at hf
  have H := hid h
  clear h
  go_enter Try.func18, Try.ntmps18
  go_wp2_with fail
  go_loopw [3] (fun i wr => ∃ k : Nat, k ≤ l.length ∧ k ≤ 24 ∧ i = .int .i64 k ∧ NoneTo bigB l k ∧ Kept [] w wr) (fun i _ => l.length - (intOf i).toNat)
  case atStart => exact ⟨0, Nat.zero_le _, by omega, rfl, NoneTo.zero _ _, Kept.refl _ _⟩
  case round =>
    obtain ⟨k, hk, hk24, rfl, hn, hkw⟩ := hrel
    have HN := hid hn
    have HKW := hid hkw
    by_cases hlt : k < l.length
    · by_cases h24 : k < 24
      · obtain ⟨b, off, rfl, hb, hc, hl1⟩ := (H.out.keptN hkw).get hlt
        have hb1 : (0 : Int) ≤ k := by omega
        have hb2 : (k : Int) < l.length := by omega
        have HNX := hid (fun hp => hn.next hlt hp)
        have HYES := hid (fun (hp : bigB l[k] = true) => (show lightB l = false by
          unfold lightB
          rw [List.any_eq_true.2 ⟨l[k], by rw [List.mem_take_iff_getElem]; exact ⟨k, by omega, rfl⟩, hp⟩]
          rfl))
        have HBV := hid (show bigB l[k] = (decide (200 < l[k].id.length) || decide (200 < l[k].user.length) || decide (200 < l[k].tenant.length) || decide (200 < l[k].device.length) || decide (200 < l[k].client.length) || decide (8 < l[k].proofs.length)) from rfl)
        clear hn hkw hl1
        generalize l[k] = x at *
        obtain ⟨d0, d1, d2, d3, d4, d5, d6, d7⟩ := hc
        have z1 := size_str x.id
        have z2 := size_str x.user
        have z3 := size_str x.tenant
        have z4 := size_str x.device
        have z5 := size_str x.client
        obtain ⟨n1, y1⟩ : ∃ n, n = x.id.length := ⟨_, rfl⟩
        obtain ⟨n2, y2⟩ : ∃ n, n = x.user.length := ⟨_, rfl⟩
        obtain ⟨n3, y3⟩ : ∃ n, n = x.tenant.length := ⟨_, rfl⟩
        obtain ⟨n4, y4⟩ : ∃ n, n = x.device.length := ⟨_, rfl⟩
        obtain ⟨n5, y5⟩ : ∃ n, n = x.client.length := ⟨_, rfl⟩
        rw [← y1] at z1 HBV
        rw [← y2] at z2 HBV
        rw [← y3] at z3 HBV
        rw [← y4] at z4 HBV
        rw [← y5] at z5 HBV
        clear y1 y2 y3 y4 y5
        cases hp : bigB x
        · have HNN := hid (HNX.out hp)
          rw [hp] at HBV
          have q := HBV.out.symm
          simp only [Bool.or_eq_false_iff, decide_eq_false_iff_not] at q
          obtain ⟨⟨⟨⟨⟨q1, q2⟩, q3⟩, q4⟩, q5⟩, q6⟩ := q
          have HKA := hid (HKW.out.alloc (.cells #[.int .i64 x.call, .int .i64 x.now, .string ⟨x.id.toArray⟩, .string ⟨x.user.toArray⟩, .string ⟨x.tenant.toArray⟩, .string ⟨x.device.toArray⟩, .string ⟨x.client.toArray⟩, .slice x.pa x.proofs.length x.pc] 49 (0, 0)))
          clear hp HBV
          go_wp2_with fail
          go_roundw
          case rel => exact ⟨k + 1, by omega, by omega, by go_num, HNN.out, HKA.out⟩
          case measure => simp [intOf]; omega
        · have HY := hid (HYES.out hp)
          rw [hp] at HBV
          have HKA := hid (HKW.out.alloc (.cells #[.int .i64 x.call, .int .i64 x.now, .string ⟨x.id.toArray⟩, .string ⟨x.user.toArray⟩, .string ⟨x.tenant.toArray⟩, .string ⟨x.device.toArray⟩, .string ⟨x.client.toArray⟩, .slice x.pa x.proofs.length x.pc] 49 (0, 0)))
          clear hp HYES HNX
          by_cases q1 : 200 < n1
          · clear HBV
            go_wp2_with fail
            go_ret
            exact ⟨ret_bool HY.out.symm, HKA.out⟩
          by_cases q2 : 200 < n2
          · clear HBV
            go_wp2_with fail
            go_ret
            exact ⟨ret_bool HY.out.symm, HKA.out⟩
          by_cases q3 : 200 < n3
          · clear HBV
            go_wp2_with fail
            go_ret
            exact ⟨ret_bool HY.out.symm, HKA.out⟩
          by_cases q4 : 200 < n4
          · clear HBV
            go_wp2_with fail
            go_ret
            exact ⟨ret_bool HY.out.symm, HKA.out⟩
          by_cases q5 : 200 < n5
          · clear HBV
            go_wp2_with fail
            go_ret
            exact ⟨ret_bool HY.out.symm, HKA.out⟩
          have q6 : 8 < x.proofs.length := by
            have q := HBV.out.symm
            rw [decide_eq_false q1, decide_eq_false q2, decide_eq_false q3, decide_eq_false q4, decide_eq_false q5] at q
            simpa using q
          clear HBV
          go_wp2_with fail
          go_ret
          exact ⟨ret_bool HY.out.symm, HKA.out⟩
      · have hx := hid (show lightB l = decide (l.length ≤ 24) by unfold lightB; rw [hn.take24 (.inr (by omega))]; rfl)
        have h24' : 24 ≤ k := by omega
        have hb1 : (0 : Int) ≤ k := by omega
        have hb2 : (k : Int) < l.length := by omega
        have hb3 : (24 : Int) ≤ k := by omega
        clear hn hkw
        go_wp2_with fail
        go_ret
        exact ⟨ret_bool (by rw [hx.out, Bool.eq_iff_iff, decide_eq_true_eq, decide_eq_true_eq]; omega), HKW.out⟩
    · have hx := hid (show lightB l = decide (l.length ≤ 24) by unfold lightB; rw [hn.take24 (.inl (by omega))]; rfl)
      have hke : k = l.length := by omega
      clear hn hkw
      go_wp2_with fail
      go_ret
      exact ⟨ret_bool (by rw [hx.out, Bool.eq_iff_iff, decide_eq_true_eq, decide_eq_true_eq]; omega), HKW.out⟩

/-! ### first -/
set_option maxHeartbeats 1000000 in
set_option maxRecDepth 100000 in
theorem first_any {w : World} (x : OpD) (h : PrfsAt w x.pa x.proofs) :
    Calls Try.prog 41 #[.agg #[.int .i64 x.call, .int .i64 x.now, .string ⟨x.id.toArray⟩, .string ⟨x.user.toArray⟩, .string ⟨x.tenant.toArray⟩, .string ⟨x.device.toArray⟩, .string ⟨x.client.toArray⟩, .slice x.pa x.proofs.length x.pc]] w fun e w' => e = .returned (prfV (firstP x)) ∧ Kept [] w w' := by
  obtain ⟨n, hn⟩ : ∃ n, n = x.proofs.length := ⟨_, rfl⟩
  obtain ⟨pa, hpa⟩ : ∃ pa, pa = x.pa := ⟨_, rfl⟩
  rw [← hn, ← hpa]
  rw [← hpa] at h
  have k1 := (Kept.refl [] w).alloc (.cells #[.int .i64 x.call, .int .i64 x.now, .string ⟨x.id.toArray⟩, .string ⟨x.user.toArray⟩, .string ⟨x.tenant.toArray⟩, .string ⟨x.device.toArray⟩, .string ⟨x.client.toArray⟩, .slice pa n x.pc] 49 (0, 0))
  have k2 := k1.alloc (.cells #[.int .i64 0, .int .i64 0] 59 (0, 0))
  cases hp : x.proofs with
  | nil =>
    have E := hid (show firstP x = (0, 0) by unfold firstP; rw [hp])
    have hn0 : n = 0 := by rw [hn, hp]; rfl
    subst hn0
    rw [E.out]
    have HK2 := hid k2
    clear k1 k2 hn h hpa
    go_enter Try.func41, Try.ntmps41
    go_wp2_with fail
    refine bodyPost_ret (v := .agg #[.int .i64 0, .int .i64 0]) (by simp [results, Try.results41, go_sem]) rfl ⟨rfl, ?_⟩
    first | exact HK2.out | exact (HK2.out.setCell (.inr (by simp)) _).setCell (.inr (by simp)) _
  | cons p r =>
    have E := hid (show firstP x = p by unfold firstP; rw [hp])
    have hn1 : (0 : Int) < n := by rw [hn, hp]; simp
    rw [E.out]
    have h2 := h.keptN k2
    rw [hp] at h2
    obtain ⟨b, off, rfl, hb, g0, g1⟩ := PrfsAt.get h2 (i := 0) (by simp)
    simp only [Nat.zero_mul, Nat.add_zero, List.getElem_cons_zero] at g0 g1
    have HK2 := hid k2
    clear k1 k2 hn h h2 hp hpa
    go_enter Try.func41, Try.ntmps41
    go_wp2_with fail
    refine bodyPost_ret (v := .agg #[.int .i64 p.1, .int .i64 p.2]) (by simp [results, Try.results41, go_sem]) rfl ⟨rfl, ?_⟩
    first | exact HK2.out | exact (HK2.out.setCell (.inr (by simp)) _).setCell (.inr (by simp)) _ | exact ((Kept.refl [] w).alloc _).alloc _
end Go.Proofs.Ytakccoiecmibcaa
