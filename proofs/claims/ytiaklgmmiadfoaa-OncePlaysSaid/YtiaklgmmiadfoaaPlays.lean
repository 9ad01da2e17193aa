/- OncePlays: the walk. -/
import Derived.Test.YtiaklgmmiadfoaaOpen
namespace Go.Proofs.Ytiaklgmmiadfoaa
open Go.RowKit Go.Maps Go.WideMaps

theorem OpCells.kept {S : List Nat} {w w' : World} {b o : Nat} {x : OpT} (h : OpCells w b o x) (k : Kept S w w') (hb : b < w.heap.size) (hS : b ∉ S) : OpCells w' b o x := by
  obtain ⟨h0, h1, h2, h3⟩ := h
  exact ⟨by rw [k.cell hb hS]; exact h0, by rw [k.cell hb hS]; exact h1, by rw [k.cell hb hS]; exact h2, by rw [k.cell hb hS]; exact h3⟩
def boxOf (x : OpT) : Obj := .cells #[.int .i64 x.kind, .string x.id, .int .i64 x.till, .int .i64 x.now] 33 (0, 0)
theorem box_cells (w : World) (x : OpT) : OpCells (w.alloc (boxOf x)) w.heap.size 0 x := by
  have h := heap_alloc_new w (boxOf x)
  exact ⟨by rw [cell_at h]; rfl, by rw [cell_at h]; rfl, by rw [cell_at h]; rfl, by rw [cell_at h]; rfl⟩
theorem ownsMap_ne {w : World} {P : Program} {k : TypeId} {H : Type} {R : Value → Option (DataW H × List MemPlace)} {b n c : Nat} {D : DataW H} {cs : Array Value} {t : TypeId} {fz : Nat × Nat} (h : w.ownsMap P k R b n D) (hc : w.heap[c]? = some (.cells cs t fz)) : c ≠ b := by
  rintro rfl
  obtain ⟨es, clock, hb, _⟩ := h
  rw [hc] at hb; cases hb
/-- The two registers lie apart. -/
theorem apart {w : World} {rb mb sb : Nat} {a : Option Addr} {cap : Nat} {most : Int} {L L' : List Ent} (h : RegAt w rb mb most L) (k : RefAt w sb a cap most L') : rb ∉ sb :: fp a ∧ mb ∉ sb :: fp a := by
  obtain ⟨D, ho, _⟩ := h.map
  have hrow : ∀ i ∈ fp a, ∃ cur, w.heap[i]? = some (.cells cur 59 (0, 0)) := by
    intro i hi
    rcases k.row.2 with ⟨h1, h2⟩ | ⟨g, cap', cur, hv, _, hg, _⟩
    · injection h1 with e1; subst e1; simp [fp] at hi
    · injection hv with e1; subst e1
      simp only [fp, List.mem_singleton] at hi
      subst hi
      exact ⟨cur, hg⟩
  constructor
  · intro hm
    rcases List.mem_cons.1 hm with e | hm
    · have := h.blk
      rw [e, k.blk] at this
      injection this with this
      injection this with _ this
      exact absurd this (by decide)
    · obtain ⟨cur, hc⟩ := hrow _ hm
      rw [h.blk] at hc
      injection hc with hc
      injection hc with _ hc
      exact absurd hc (by decide)
  · intro hm
    rcases List.mem_cons.1 hm with e | hm
    · exact ownsMap_ne ho k.blk e.symm
    · obtain ⟨cur, hc⟩ := hrow _ hm
      exact ownsMap_ne ho hc rfl

theorem RefAt.lt {w : World} {sb : Nat} {a : Option Addr} {cap : Nat} {most : Int} {L : List Ent} (k : RefAt w sb a cap most L) : ∀ i ∈ sb :: fp a, i < w.heap.size := by
  intro i hi
  rcases List.mem_cons.1 hi with e | hi
  · rw [e]; exact lt_of_heap k.blk
  · rcases k.row.2 with ⟨h1, h2⟩ | ⟨g, cap', cur, hv, _, hg, _⟩
    · injection h1 with e1; subst e1; simp [fp] at hi
    · injection hv with e1; subst e1
      simp only [fp, List.mem_singleton] at hi
      rw [hi]; exact lt_of_heap hg
theorem RegAt.lt {w : World} {rb mb : Nat} {most : Int} {L : List Ent} (h : RegAt w rb mb most L) : ∀ i ∈ [mb], i < w.heap.size := by
  intro i hi
  obtain ⟨D, ho, _⟩ := h.map
  simp only [List.mem_singleton] at hi
  rw [hi]; exact ho.lt
/-- Both registers, with the same entries, above B. -/
structure Both (B : Nat) (w : World) (rb mb sb : Nat) (a : Option Addr) (cap : Nat) (most : Int) (L : List Ent) : Prop where
  reg : RegAt w rb mb most L
  ref : RefAt w sb a cap most L
  hrb : B ≤ rb
  hmb : B ≤ mb
  hsb : B ≤ sb
  hfp : ∀ i ∈ fp a, B ≤ i
theorem Both.kept {B : Nat} {w w' : World} {rb mb sb : Nat} {a : Option Addr} {cap : Nat} {most : Int} {L : List Ent} (h : Both B w rb mb sb a cap most L) (k : Kept [] w w') : Both B w' rb mb sb a cap most L :=
  ⟨h.reg.kept k (by simp) (by simp), h.ref.kept k (by simp) (by simp), h.hrb, h.hmb, h.hsb, h.hfp⟩

/-- First the program's register turns, then the reference's. -/
theorem Both.turn {B : Nat} {w w1 w2 : World} {rb mb sb : Nat} {a a' : Option Addr} {cap cap' : Nat} {most : Int} {L L' : List Ent} (h : Both B w rb mb sb a cap most L) (hr1 : RegAt w1 rb mb most L') (k1 : Kept [mb] w w1)
    (hr2 : RefAt w2 sb a' cap' most L') (k2 : Kept (sb :: fp a) w1 w2) (hn : ∀ i ∈ fp a', i ∈ fp a ∨ w1.heap.size ≤ i) (hB : B ≤ w.heap.size) : Both B w2 rb mb sb a' cap' most L' := by
  obtain ⟨n1, n2⟩ := apart hr1 (h.ref.kept k1 (by simpa using fun e => (apart h.reg h.ref).2 (by simp [← e])) (fun i hi => by simpa using fun e => (apart h.reg h.ref).2 (by simp [← e, hi])))
  refine ⟨hr1.kept k2 n1 n2, hr2, h.hrb, h.hmb, h.hsb, fun i hi => ?_⟩
  rcases hn i hi with hi | hi
  · exact h.hfp i hi
  · have := k1.size; omega
theorem Both.ref1 {B : Nat} {w w1 : World} {rb mb sb : Nat} {a : Option Addr} {cap : Nat} {most : Int} {L : List Ent} (h : Both B w rb mb sb a cap most L) (k1 : Kept [mb] w w1) : RefAt w1 sb a cap most L :=
  h.ref.kept k1 (by simpa using fun e => (apart h.reg h.ref).2 (by simp [← e])) (fun i hi => by simpa using fun e => (apart h.reg h.ref).2 (by simp [← e, hi]))

set_option maxHeartbeats 4000000 in
set_option maxRecDepth 100000 in
theorem plays_walk {w : World} (most : Int) (_hm : (Lit.int .i64 most).wf = true) {a : Option Addr} {cap : Nat} {l : List OpT} (h : OpsAt w a l) :
    Calls Try.prog 3 #[.int .i64 most, .slice a l.length cap] w fun e w' => e = .returned (.bool true) ∧ Below w.heap.size w w' := by
  have hf := h.few
  unfold maxLen at hf
  cases hfw : fewB l
  · go_enter Try.func3, Try.ntmps3
    go_wp2_with (first
      | (go_at_call 9; refine (few_any h).mono ?_; rintro e w' ⟨rfl, rfl⟩)
      | (go_at_call 10; refine (alive_any _).mono ?_; rintro e w1 ⟨rfl, hk1⟩))
    go_ret
    exact ⟨rfl, hk1.toBelow (by simp)⟩
  by_cases hm : most < 1 ∨ 256 < most
  · go_enter Try.func3, Try.ntmps3
    go_wp2_with (first
      | (go_at_call 9; refine (few_any h).mono ?_; rintro e w' ⟨rfl, rfl⟩)
      | (go_at_call 11; refine (new_no _ hm _).mono ?_; rintro e w' ⟨rfl, rfl⟩)
      | (go_at_call 12; refine (newr_no _ hm _).mono ?_; rintro e w' ⟨rfl, rfl⟩)
      | (go_at_call 10; refine (alive_any _).mono ?_; rintro e w1 ⟨rfl, hk1⟩))
    go_ret
    exact ⟨rfl, hk1.toBelow (by simp)⟩
  have hm1 : 1 ≤ most := by omega
  have hm2 : most ≤ 256 := by omega
  clear hm
  go_enter Try.func3, Try.ntmps3
  go_wp2_with (first
    | (go_at_call 9; refine (few_any h).mono ?_; rintro e w' ⟨rfl, rfl⟩)
    | (go_at_call 11; refine (new_yes _ hm1 hm2 _).mono ?_; rintro e w1 ⟨rfl, hr1, hk1, hs1⟩)
    | (go_at_call 12; refine (newr_yes _ hm1 hm2 _).mono ?_; rintro e w2 ⟨rfl, hr2, hk2, hs2⟩))
  go_loopw [9] (fun i wr => ∃ (k : Nat) (a' : Option Addr) (cap' : Nat) (L : List Ent), k ≤ l.length ∧ i = .int .i64 k ∧ Both w.heap.size wr (w.heap.size + 1) w.heap.size (w.heap.size + 2) a' cap' most L ∧ Below w.heap.size w wr) (fun i _ => l.length - (intOf i).toNat)
  case atStart =>
    have hr2' : RefAt w2 (w.heap.size + 2) none 0 most [] := by rw [hs1] at hr2; exact hr2
    exact ⟨0, none, 0, [], Nat.zero_le _, rfl, ⟨hr1.kept hk2 (by simp) (by simp), hr2', by omega, by omega, by omega, by simp [fp]⟩, Kept.below (hk1.toBelow (by simp)) hk2 (by omega) (by simp)⟩
  case round =>
    obtain ⟨k, a', cap', L, hk, rfl, hB, hbw⟩ := hrel
    clear hr1 hk1 hs1 hr2 hk2 hs2
    by_cases hlt : k < l.length
    · have hsz := h.sized _ (List.getElem_mem hlt)
      obtain ⟨b, off, rfl, hb, hc⟩ := h.at hlt
      obtain ⟨hc0, hc1, hc2, hc3⟩ := hc
      rw [← hbw.cell hb] at hc0 hc1 hc2 hc3
      have hb1 : (0 : Int) ≤ k := by omega
      have hb2 : (k : Int) < l.length := by omega
      generalize l[k] = x at *
      have hO := box_cells wr x
      have hwr := hbw.size
      have hx1 := hid (show wr.heap.size ∉ [w.heap.size] from fun hm => Nat.lt_irrefl _ (hB.reg.lt _ hm))
      have hx2 := hid (show wr.heap.size ∉ (w.heap.size + 2) :: fp a' from fun hm => Nat.lt_irrefl _ (hB.ref.lt _ hm))
      have hx3 := hid (show wr.heap.size ∉ [w.heap.size + 2] from fun hm => Nat.lt_irrefl _ (hB.ref.lt _ (by simp at hm; simp [hm])))
      have hBd : Both w.heap.size (wr.alloc (boxOf x)).drew (w.heap.size + 1) w.heap.size (w.heap.size + 2) a' cap' most L := hB.kept ((Kept.refl [] wr).alloc _).drew
      have hBq : ∀ n, Both w.heap.size ((wr.alloc (boxOf x)).drewN n) (w.heap.size + 1) w.heap.size (w.heap.size + 2) a' cap' most L := fun n => hB.kept (((Kept.refl [] wr).alloc _).drewN n)
      by_cases h0 : x.kind = 0
      · have k0 : (x.kind == 0) = true := by simpa using h0
        clear h0
        go_wp2_with fail
        go_region_held3 (fun w' => w'.cell? ⟨wr.heap.size, 1, none⟩ = some (.string x.id) ∧ w'.cell? ⟨wr.heap.size, 2, none⟩ = some (.int .i64 x.till) ∧ w'.cell? ⟨wr.heap.size, 3, none⟩ = some (.int .i64 x.now))
          (first | go_keep | (exact ((hO.kept (Kept.refl [] _).drew (by simp) (by simp)).kept hk1 (by simp) hx1.out).2) | (exact (((hO.kept (Kept.refl [] _).drew (by simp) (by simp)).kept hk1 (by simp) hx1.out).kept hk2 (by have := hk1.size; simp at this; omega) hx2.out).2))
          (first
            | (go_at_call 13; refine (use_reg hBd.reg _ hsz _ _).mono ?_; rintro e w1 ⟨rfl, hr1, hk1⟩)
            | (go_at_call 14; refine (use_ref (hBd.ref1 hk1) _ hsz _ _).mono ?_; rintro e w2 ⟨rfl, a2, cap2, hr2, hk2, hn2⟩))
        have hB2 := hBd.turn hr1 hk1 hr2 hk2 hn2 (by simp; omega)
        have hbel : Below w.heap.size w w2 := Kept.below (Kept.below hbw ((((Kept.refl [] wr).alloc _).drew.mono (by simp)).step hk1 (fun i hi => hi)) hwr (by simp)) hk2 (by have := hk1.size; simp at this; omega) (fun i hi => by
          rcases List.mem_cons.1 hi with e | hi
          · omega
          · exact hB.hfp i hi)
        clear hO
        go_wp2_with (first
          | (go_at_call 19; refine (len_reg hB2.reg).mono ?_; rintro e w' ⟨rfl, rfl⟩)
          | (go_at_call 20; refine (len_ref hB2.ref).mono ?_; rintro e w' ⟨rfl, rfl⟩))
        go_roundw
        case rel => exact ⟨k + 1, a2, cap2, _, by omega, by go_num, hB2, hbel⟩
        case measure => simp [intOf]; omega
      · have k0 : (x.kind == 0) = false := by simpa using h0
        by_cases h1 : x.kind = 1
        · have k1 : (x.kind == 1) = true := by simpa using h1
          clear h0 h1
          go_wp2_with fail
          go_quiet ((first
            | (go_at_call 15; refine Calls.quiet_of (seen_reg (hBq _).reg _ hsz _))
            | (go_at_call 16; refine Calls.quiet_of (seen_ref (hBq _).ref _ _))))
          clear hO
          go_wp2_with (first
            | (go_at_call 19; refine (len_reg (hBq _).reg).mono ?_; rintro e w' ⟨rfl, rfl⟩)
            | (go_at_call 20; refine (len_ref (hBq _).ref).mono ?_; rintro e w' ⟨rfl, rfl⟩))
          go_roundw
          case rel => exact ⟨k + 1, a', cap', L, by omega, by go_num, hBq _, Kept.below hbw (((Kept.refl [] wr).alloc (boxOf x)).drewN _) hwr (by simp)⟩
          case measure => simp [intOf]; omega
        · have k1 : (x.kind == 1) = false := by simpa using h1
          by_cases h2 : x.kind = 2
          · have k2 : (x.kind == 2) = true := by simpa using h2
            clear h0 h1 h2
            go_wp2_with fail
            go_region_held3 (fun w' => w'.cell? ⟨wr.heap.size, 3, none⟩ = some (.int .i64 x.now))
              (first | go_keep | (exact ((hO.kept (Kept.refl [] _).drew (by simp) (by simp)).kept hk1 (by simp) hx1.out).2.2.2) | (exact (((hO.kept (Kept.refl [] _).drew (by simp) (by simp)).kept hk1 (by simp) hx1.out).kept hk2 (by have := hk1.size; simp at this; omega) hx3.out).2.2.2))
              (first
                | (go_at_call 17; refine (purge_reg hBd.reg _).mono ?_; rintro e w1 ⟨rfl, hr1, hk1⟩)
                | (go_at_call 18; refine (purge_ref (hBd.ref1 hk1) _).mono ?_; rintro e w2 ⟨rfl, a2, cap2, hr2, hk2, hn2⟩))
            have hB2 := hBd.turn hr1 hk1 hr2 (hk2.mono (by simp)) (fun i hi => .inr (hn2 i hi)) (by simp; omega)
            have hbel : Below w.heap.size w w2 := Kept.below (Kept.below hbw ((((Kept.refl [] wr).alloc _).drew.mono (by simp)).step hk1 (fun i hi => hi)) hwr (by simp)) hk2 (by have := hk1.size; simp at this; omega) (by simp)
            clear hO
            go_wp2_with (first
              | (go_at_call 19; refine (len_reg hB2.reg).mono ?_; rintro e w' ⟨rfl, rfl⟩)
              | (go_at_call 20; refine (len_ref hB2.ref).mono ?_; rintro e w' ⟨rfl, rfl⟩))
            go_roundw
            case rel => exact ⟨k + 1, a2, cap2, _, by omega, by go_num, hB2, hbel⟩
            case measure => simp [intOf]; omega
          · have k2 : (x.kind == 2) = false := by simpa using h2
            clear h0 h1 h2 hO
            have hB0 := hB.kept ((Kept.refl [] wr).alloc (boxOf x))
            go_wp2_with (first
              | (go_at_call 19; refine (len_reg hB0.reg).mono ?_; rintro e w' ⟨rfl, rfl⟩)
              | (go_at_call 20; refine (len_ref hB0.ref).mono ?_; rintro e w' ⟨rfl, rfl⟩))
            go_roundw
            case rel => exact ⟨k + 1, a', cap', L, by omega, by go_num, hB0, Kept.below hbw ((Kept.refl [] wr).alloc (boxOf x)) hwr (by simp)⟩
            case measure => simp [intOf]; omega
    · go_wp2_with (first
        | (go_at_call 10; refine (alive_any _).mono ?_; rintro e w1 ⟨rfl, hk1⟩))
      go_ret
      exact ⟨rfl, Kept.below hbw hk1 hbw.size (by simp)⟩

end Go.Proofs.Ytiaklgmmiadfoaa
