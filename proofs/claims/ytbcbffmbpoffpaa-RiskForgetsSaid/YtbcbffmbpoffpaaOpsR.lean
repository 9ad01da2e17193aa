/- Scripts: brief; both profiles side by side. -/
import Derived.Test.YtbcbffmbpoffpaaScores
import Derived.Test.YtbcbffmbpoffpaaRef3
import Derived.Test.YtbcbffmbpoffpaaRef4
namespace Go.Proofs.Ytbcbffmbpoffpaa
open Go.RowKit Go.Maps Go.ChangeShapes Go.WideShapes Go.ChangeAt

structure OpD where
  kind : Int
  u : Str
  d : Str
  p : Str
  now : Int
def encO (x : OpD) : List Value := [.int .i64 x.kind, sV x.u, sV x.d, sV x.p, .int .i64 x.now]
abbrev OpsAt (w : World) (a : Option Addr) (l : List OpD) : Prop := ListAt 5 encO w a l
theorem OpsAt.get {w : World} {a : Option Addr} {l : List OpD} (h : OpsAt w a l) {i : Nat} (hi : i < l.length) : ∃ b off, a = some ⟨b, off, none⟩ ∧ b < w.heap.size ∧ w.cell? ⟨b, off + i * 5, none⟩ = some (.int .i64 l[i].kind) ∧ w.cell? ⟨b, off + i * 5 + 1, none⟩ = some (.string ⟨l[i].u.toArray⟩) ∧ w.cell? ⟨b, off + i * 5 + 2, none⟩ = some (.string ⟨l[i].d.toArray⟩) ∧ w.cell? ⟨b, off + i * 5 + 3, none⟩ = some (.string ⟨l[i].p.toArray⟩) ∧ w.cell? ⟨b, off + i * 5 + 4, none⟩ = some (.int .i64 l[i].now) := by
  obtain ⟨b, off, e, hb, hc⟩ := h.at hi
  exact ⟨b, off, e, hb, hc 0 _ rfl, hc 1 _ rfl, hc 2 _ rfl, hc 3 _ rfl, hc 4 _ rfl⟩
def bigB (x : OpD) : Bool := decide (100 < x.u.length) || decide (100 < x.d.length) || decide (100 < x.p.length)
def briefB (l : List OpD) : Bool := l.all (fun x => !bigB x) && decide (l.length ≤ 30)
theorem brief_no {l : List OpD} {k : Nat} (hk : k < l.length) (hp : bigB l[k] = true) : briefB l = false := by
  unfold briefB
  rw [Bool.and_eq_false_iff]
  left
  rw [List.all_eq_false]
  exact ⟨_, List.getElem_mem hk, by simp [hp]⟩
theorem brief_end {l : List OpD} (h : ∀ x ∈ l, bigB x = false) : briefB l = decide (l.length ≤ 30) := by
  unfold briefB
  rw [show l.all (fun x => !bigB x) = true from List.all_eq_true.2 (fun x hx => by rw [h x hx]; rfl)]
  rfl
theorem size_str (x : Str) : (⟨x.toArray⟩ : ByteArray).size = x.length := by simp [ByteArray.size]
structure Small (x : OpD) : Prop where
  u : (⟨x.u.toArray⟩ : ByteArray).size ≤ maxLen
  d : (⟨x.d.toArray⟩ : ByteArray).size ≤ maxLen
  p : (⟨x.p.toArray⟩ : ByteArray).size ≤ maxLen
theorem small_of {x : OpD} (h : bigB x = false) : Small x := by
  unfold bigB at h
  simp only [Bool.or_eq_false_iff, decide_eq_false_iff_not] at h
  exact ⟨by rw [size_str]; unfold maxLen; omega, by rw [size_str]; unfold maxLen; omega, by rw [size_str]; unfold maxLen; omega⟩
theorem brief_yes {l : List OpD} (h : briefB l = true) : l.length ≤ 30 ∧ ∀ x ∈ l, bigB x = false := by
  unfold briefB at h
  simp only [Bool.and_eq_true, List.all_eq_true, decide_eq_true_eq] at h
  exact ⟨h.2, fun x hx => by have := h.1 x hx; simpa using this⟩
set_option maxHeartbeats 1000000 in
theorem brief_any {w : World} {a : Option Addr} {cap : Nat} {l : List OpD} (h : OpsAt w a l) :
    Calls Try.prog 15 #[.slice a l.length cap] w fun e w' => e = .returned (.bool (briefB l)) ∧ w = w' := by
  have hf := h.few
  unfold maxLen at hf
  go_enter Try.func15, Try.ntmps15
  go_wp2_with fail
  go_loop [3] (fun i => ∃ k : Nat, k ≤ l.length ∧ i = .int .i64 k ∧ NoneTo bigB l k) (fun i => l.length - (intOf i).toNat)
  case atStart => exact ⟨0, Nat.zero_le _, rfl, NoneTo.zero _ _⟩
  case round =>
    obtain ⟨k, hk, rfl, hn⟩ := hrel
    by_cases hlt : k < l.length
    · obtain ⟨b, off, rfl, hb, hc0, hc1, hc2, hc3, hc4⟩ := OpsAt.get h hlt
      have hb1 : (0 : Int) ≤ k := by omega
      have hb2 : (k : Int) < l.length := by omega
      have z1 := size_str l[k].u
      have z2 := size_str l[k].d
      have z3 := size_str l[k].p
      clear hc0 hc4
      by_cases t1 : 100 < l[k].u.length
      · have HP := hid (show bigB l[k] = true by simp [bigB, t1])
        go_wp2_with fail
        go_ret
        exact ⟨ret_bool (brief_no hlt HP.out).symm, rfl⟩
      · by_cases t2 : 100 < l[k].d.length
        · have HP := hid (show bigB l[k] = true by simp [bigB, t2])
          go_wp2_with fail
          go_ret
          exact ⟨ret_bool (brief_no hlt HP.out).symm, rfl⟩
        · by_cases t3 : 100 < l[k].p.length
          · have HP := hid (show bigB l[k] = true by simp [bigB, t3])
            go_wp2_with fail
            go_ret
            exact ⟨ret_bool (brief_no hlt HP.out).symm, rfl⟩
          · have HP := hid (show bigB l[k] = false by simp [bigB]; omega)
            go_wp2_with fail
            go_round
            case rel => exact ⟨k + 1, by omega, by go_num, hn.next hlt HP.out⟩
            case measure => simp [intOf]; omega
    · have hx := hid (brief_end (hn.all (by omega)))
      go_wp2_with fail
      go_ret
      exact ⟨ret_bool (by rw [hx.out, Bool.eq_iff_iff, decide_eq_true_eq, decide_eq_true_eq]; omega), rfl⟩

theorem op_open {H : Type} {enc : TypeId × Value → H} {w : World} {b o n : Nat} {cs : List Value} {y : DataW H × List MemPlace} (hl : cs.length = 5) (hc : ∀ j, j < 5 → w.cell? ⟨b, o + j, none⟩ = cs[j]?) (h : DataW.trod enc Try.prog w 0 (fun _ => true) true n 35 cs = some y) :
    ∃ x : OpD, CEnc encO w b o x := by
  obtain ⟨xs, m, _, _, _, hlen, hf⟩ := DataW.trod_struct Try.underlying35 h
  have hlen4 : xs.length = 5 := hlen
  have zi : Try.prog.cellsOf 9 = 1 := by kernel_rfl
  have zj : Try.prog.cellsOf 3 = 1 := by kernel_rfl
  have f0 := hf 0 _ rfl
  have f1 := hf 1 _ rfl
  have f2 := hf 2 _ rfl
  have f3 := hf 3 _ rfl
  have f4 := hf 4 _ rfl
  match cs, hl, xs, hlen4 with
  | [c0, c1, c2, c3, c4], _, [x0, x1, x2, x3, x4], _ =>
    obtain ⟨n0, e0, _⟩ := DataW.trod_int Try.underlying3 f0
    obtain ⟨n1, e1, _⟩ := DataW.trod_string Try.underlying9 f1
    obtain ⟨n2, e2, _⟩ := DataW.trod_string Try.underlying9 f2
    obtain ⟨n3, e3, _⟩ := DataW.trod_string Try.underlying9 f3
    obtain ⟨n4, e4, _⟩ := DataW.trod_int Try.underlying3 f4
    have k0 : c0 = .int .i64 n0 := by simpa [zj] using e0
    have k1 : c1 = .string n1 := by simpa [zi, zj] using e1
    have k2 : c2 = .string n2 := by simpa [zi, zj] using e2
    have k3 : c3 = .string n3 := by simpa [zi, zj] using e3
    have k4 : c4 = .int .i64 n4 := by simpa [zi, zj] using e4
    refine ⟨⟨n0, n1.data.toList, n2.data.toList, n3.data.toList, n4⟩, fun j v hv => ?_⟩
    have hj : j < 5 := by
      rcases Nat.lt_or_ge j 5 with h1 | h1
      · exact h1
      · rw [List.getElem?_eq_none (by simp [encO]; omega)] at hv; cases hv
    rw [hc j hj, ← hv, k0, k1, k2, k3, k4]
    simp [encO, sV]
theorem ops_open {H : Type} {enc : TypeId × Value → H} {w : World} {a : Option Addr} {len cap : Nat} {d : DataW H} {p : List MemPlace}
    (h : DataW.Trod enc Try.prog w 0 (fun _ => true) true 28 (.slice a len cap) d p) : ∃ l : List OpD, l.length = len ∧ OpsAt w a l := by
  obtain ⟨h1, h2, h3⟩ := slice_open Try.underlying28 (sz := 5) (by kernel_rfl) (by omega) h
  rcases h3 with h3 | ⟨b, off, ha, hb, hel⟩
  · exact ⟨[], h3.symm, list_nil w a⟩
  · obtain ⟨l, hl, hp⟩ := list_of (α := OpD) (p := fun i x => CEnc encO w b (off + i * 5) x) (fun i hi => by
      obtain ⟨cs, y, n, e1, e2, e3⟩ := hel i hi
      exact op_open e1 e2 e3)
    exact ⟨l, hl, ⟨.inr ⟨b, off, ha, hb, fun i hi => hp i hi⟩, by omega⟩⟩

/-! ### side by side -/
structure Both (w : World) (pb mb qb : Nat) (a : Option Addr) (cap : Nat) (X : List Raw) (U : Users) : Prop where
  prog : ProfsAt w pb mb U
  raw : RefR w qb a cap X
  like : Like w X U
theorem Both.ne {w : World} {pb mb qb : Nat} {a : Option Addr} {cap : Nat} {X : List Raw} {U : Users} (h : Both w pb mb qb a cap X U) : qb ≠ mb ∧ mb ∉ fp a ∧ pb ∉ qb :: fp a := by
  obtain ⟨L, hm, _⟩ := h.prog.map
  refine ⟨hm.ne h.raw.blk, fun hi => ?_, fun hi => ?_⟩
  · obtain ⟨cur, hb⟩ := row_blk h.raw.row mb hi
    exact hm.ne hb rfl
  · rcases List.mem_cons.1 hi with e | hi
    · have := h.prog.blk
      rw [e, h.raw.blk] at this
      injection this with this; injection this with _ this _
      exact absurd this (by decide)
    · obtain ⟨cur, hb⟩ := row_blk h.raw.row pb hi
      rw [h.prog.blk] at hb
      injection hb with hb; injection hb with _ hb _
      exact absurd hb (by decide)
theorem Both.keptN {w w' : World} {pb mb qb : Nat} {a : Option Addr} {cap : Nat} {X : List Raw} {U : Users} (h : Both w pb mb qb a cap X U) (k : Kept [] w w') : Both w' pb mb qb a cap X U :=
  ⟨h.prog.keptN k, h.raw.kept k (by simp) (by simp), h.like.kept k (nostr_nil w)⟩
/-- The program has made a step: the reference is as it was. -/
theorem Both.step1 {w w' : World} {pb mb qb : Nat} {a : Option Addr} {cap : Nat} {X : List Raw} {U : Users} (h : Both w pb mb qb a cap X U) (k : Kept [mb] w w') : RefR w' qb a cap X ∧ Like w' X U := by
  obtain ⟨n1, n2, _⟩ := h.ne
  obtain ⟨L, hm, _⟩ := h.prog.map
  exact ⟨h.raw.kept k (by simpa using n1) (fun i hi hx => by simp at hx; subst hx; exact n2 hi), h.like.kept k (nostr_map hm)⟩
/-- The reference has made a step, too. -/
theorem Both.step2 {w w1 w2 : World} {pb mb qb : Nat} {a : Option Addr} {cap : Nat} {X : List Raw} {U U2 : Users} (h : Both w pb mb qb a cap X U) (k : Kept [mb] w w1) (hp : ProfsAt w1 pb mb U2) (ho : RefOut w1 w2 qb a U2) : ∃ a' cap' X', Both w2 pb mb qb a' cap' X' U2 ∧ Kept (qb :: fp a) w1 w2 ∧ ∀ i ∈ fp a', i ∈ fp a ∨ w1.heap.size ≤ i := by
  obtain ⟨n1, n2, n3⟩ := h.ne
  obtain ⟨a', cap', X', hr⟩ := ho
  have hraw := (h.step1 k).1
  have hns := hraw.nostr
  exact ⟨a', cap', X', ⟨hp.kept hr.kept n3 (by simp only [List.mem_cons, not_or]; exact ⟨fun e => n1 e.symm, n2⟩) hns, hr.raw, hr.like⟩, hr.kept, hr.new⟩
end Go.Proofs.Ytbcbffmbpoffpaa
