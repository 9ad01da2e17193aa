/- Processes of workflows: plain, in memory; state, group, denies. -/
import Derived.Test.YtionejokdfgmhaaHas
import Derived.Test.YtionejokdfgmhaaPmap
import Derived.Test.YtionejokdfgmhaaWord
namespace Go.Proofs.Ytionejokdfgmhaa
open Go.RowKit Go.Maps

theorem lawS : Keyed Try.prog 9 := string_keyed Try.underlying9
abbrev Stp := Str × Int
def encT (s : Stp) : List Value := [sV s.1, .int .i64 s.2]
theorem encTOk : Enc Try.prog 44 2 24 encT :=
  ⟨fun _ => rfl, fun x v hv => by simp [encT] at hv; rcases hv with rfl | rfl <;> rfl, by omega, by omega, by
    obtain ⟨i0, hi, h1, h2, h3⟩ := info_parts (show (Try.prog.info? 44).map (fun i => (i.zero, i.size, i.bytes)) = some (some (.agg #[.string ⟨#[]⟩, .int .i64 0]), 2, 24) by kernel_rfl)
    exact ⟨i0, _, hi, h1, h2, h3, rfl⟩⟩
abbrev StpsAt (w : World) (a : Option Addr) (l : List Stp) : Prop := ListAt 2 encT w a l
theorem StpsAt.get {w : World} {a : Option Addr} {l : List Stp} (h : StpsAt w a l) {i : Nat} (hi : i < l.length) : ∃ b off, a = some ⟨b, off, none⟩ ∧ b < w.heap.size ∧ w.cell? ⟨b, off + i * 2, none⟩ = some (sV l[i].1) ∧ w.cell? ⟨b, off + i * 2 + 1, none⟩ = some (.int .i64 l[i].2) := by
  obtain ⟨b, off, e, hb, hc⟩ := h.at hi
  exact ⟨b, off, e, hb, by have := hc 0 _ rfl; rwa [Nat.add_zero] at this, hc 1 _ rfl⟩

/-- A workflow. -/
structure Proc where
  kind : Str
  user : Str
  by_ : Str
  steps : List Stp
  until_ : Int
  step : Nat
  count : Nat
  appr : List Str
  rej : Bool
  tak : Bool
/-- Where it lies. -/
structure PP where
  p : Nat
  sa : Option Addr
  sc : Nat
  aa : Option Addr
  ac : Nat
  x : Proc
def procV (q : PP) : Array Value := #[sV q.x.kind, sV q.x.user, sV q.x.by_, .slice q.sa q.x.steps.length q.sc, .int .i64 q.x.until_, .int .i64 q.x.step, .int .i64 q.x.count, .slice q.aa q.x.appr.length q.ac, .bool q.x.rej, .bool q.x.tak]
def pdm (q : PP) : List Nat := q.p :: (fp q.sa ++ fp q.aa)
structure ProcAt (w : World) (q : PP) : Prop where
  blk : w.heap[q.p]? = some (.cells (procV q) 72 (0, 0))
  steps : w.ownsRow 0 44 2 (.slice q.sa q.x.steps.length q.sc) q.x.steps.length (rowV encT q.x.steps)
  appr : w.ownsRow 0 9 1 (.slice q.aa q.x.appr.length q.ac) q.x.appr.length (rowV encS q.x.appr)
theorem procLaw : PLaw ProcAt pdm PP.p where
  kept := fun S w w' q h k hS => ⟨k.at h.blk (hS _ (by simp [pdm])), row_kept h.steps k (fun i hi => hS i (by simp [pdm, hi])), row_kept h.appr k (fun i hi => hS i (by simp [pdm, hi]))⟩
  own := fun q => by simp [pdm]
  cells := fun w q h i hi => by
    simp only [pdm, List.mem_cons, List.mem_append] at hi
    rcases hi with rfl | hi | hi
    · exact ⟨_, _, _, h.blk⟩
    · obtain ⟨cur, hc⟩ := row_blk h.steps i hi; exact ⟨_, _, _, hc⟩
    · obtain ⟨cur, hc⟩ := row_blk h.appr i hi; exact ⟨_, _, _, hc⟩
theorem ProcAt.stps {w : World} {q : PP} (h : ProcAt w q) : StpsAt w q.sa q.x.steps := row_list encTOk h.steps
theorem ProcAt.apps {w : World} {q : PP} (h : ProcAt w q) : StrsAt w q.aa q.x.appr := row_list encSOk h.appr
theorem ProcAt.cell {w : World} {q : PP} (h : ProcAt w q) (i : Nat) : w.cell? ⟨q.p, i, none⟩ = (procV q)[i]? := cell_at h.blk i
theorem ProcAt.drew {w : World} {q : PP} (h : ProcAt w q) (n : Nat) : ProcAt (w.drewN n) q := ⟨h.blk, h.steps, h.appr⟩

/-! ### state -/
def sApproved : Str := [97, 112, 112, 114, 111, 118, 101, 100]
def sRejected : Str := [114, 101, 106, 101, 99, 116, 101, 100]
def sExpired : Str := [101, 120, 112, 105, 114, 101, 100]
def sPending : Str := [112, 101, 110, 100, 105, 110, 103]
def stS (x : Proc) (t : Int) : Str := if x.step = x.steps.length then sApproved else if x.rej then sRejected else if x.until_ ≤ t then sExpired else sPending
def grpS (x : Proc) : Str := (x.steps[x.step]?.map (·.1)).getD []
def denB (x : Proc) (s : Str) : Bool := s == x.user || s == x.by_
def DrewN (w w' : World) : Prop := ∃ n, w' = w.drewN n
theorem DrewN.kept {w w' : World} (h : DrewN w w') : Kept [] w w' := by obtain ⟨n, rfl⟩ := h; exact (Kept.refl [] w).drewN n

set_option maxHeartbeats 1000000 in
theorem state_any {w : World} {q : PP} (h : ProcAt w q) (t : Int) :
    Calls Try.prog 36 #[.pointer (some ⟨q.p, 0, none⟩), .int .i64 t] w fun e w' => e = .returned (sV (stS q.x t)) ∧ DrewN w w' := by
  have c5 := h.cell 5
  have c3 := h.cell 3
  have c8 := h.cell 8
  have c4 := h.cell 4
  simp [procV] at c5 c3 c8 c4
  have hf := h.stps.few
  unfold maxLen at hf
  have HE := hid (show stS q.x t = if q.x.step = q.x.steps.length then sApproved else if q.x.rej then sRejected else if q.x.until_ ≤ t then sExpired else sPending from rfl)
  clear h
  generalize stS q.x t = R at *
  generalize q.x.until_ = u at *
  generalize q.x.rej = rj at *
  generalize q.x.step = s at *
  generalize q.x.steps.length = n at *
  by_cases h1 : s = n
  · have hb : ((s : Int) == (n : Int)) = true := by rw [beq_iff_eq]; omega
    have E := hid (show R = sApproved by rw [HE.out, if_pos h1])
    clear h1
    go_enter Try.func36, Try.ntmps36
    go_wp2_with fail
    go_quiet (fail)
    go_wp2_with fail
    go_ret
    rw [E.out]
    exact ⟨rfl, _, rfl⟩
  · have hb : ((s : Int) == (n : Int)) = false := by rw [beq_eq_false_iff_ne]; omega
    have E1 := hid (show R = if rj then sRejected else if u ≤ t then sExpired else sPending by rw [HE.out, if_neg h1])
    clear h1
    cases rj
    · by_cases h2 : u ≤ t
      · have E := hid (show R = sExpired by rw [E1.out, if_neg (by simp), if_pos h2])
        go_enter Try.func36, Try.ntmps36
        go_wp2_with fail
        go_quiet (fail)
        go_wp2_with fail
        go_ret
        rw [E.out]
        exact ⟨rfl, _, rfl⟩
      · have E := hid (show R = sPending by rw [E1.out, if_neg (by simp), if_neg h2])
        go_enter Try.func36, Try.ntmps36
        go_wp2_with fail
        go_quiet (fail)
        go_wp2_with fail
        go_ret
        rw [E.out]
        exact ⟨rfl, _, rfl⟩
    · have E := hid (show R = sRejected by rw [E1.out, if_pos rfl])
      go_enter Try.func36, Try.ntmps36
      go_wp2_with fail
      go_quiet (fail)
      go_wp2_with fail
      go_ret
      rw [E.out]
      exact ⟨rfl, _, rfl⟩
set_option maxHeartbeats 1000000 in
theorem group_any {w : World} {q : PP} (h : ProcAt w q) :
    Calls Try.prog 43 #[.pointer (some ⟨q.p, 0, none⟩), .int .i64 q.x.step] w fun e w' => e = .returned (sV (grpS q.x)) ∧ w = w' := by
  have c3 := h.cell 3
  simp [procV] at c3
  have hf := h.stps.few
  unfold maxLen at hf
  by_cases hlt : q.x.step < q.x.steps.length
  · obtain ⟨b, off, e, hb, hc0, hc1⟩ := StpsAt.get h.stps hlt
    have E := hid (show grpS q.x = q.x.steps[q.x.step].1 by unfold grpS; rw [List.getElem?_eq_getElem hlt]; rfl)
    generalize q.x.steps[q.x.step] = s at *
    rw [e] at c3
    have hb1 : (0 : Int) ≤ q.x.step := by omega
    have hb2 : (q.x.step : Int) < q.x.steps.length := by omega
    clear h e hlt
    generalize q.x.step = k at *
    generalize q.x.steps.length = n at *
    rw [E.out]
    clear hc1
    go_enter Try.func43, Try.ntmps43
    go_wp2_with fail
    go_ret
    exact ⟨rfl, rfl⟩
  · have E := hid (show grpS q.x = [] by unfold grpS; rw [List.getElem?_eq_none (by omega)]; rfl)
    have hge : (q.x.steps.length : Int) ≤ q.x.step := by omega
    clear h hlt
    generalize q.x.step = k at *
    generalize q.x.steps.length = n at *
    rw [E.out]
    go_enter Try.func43, Try.ntmps43
    go_wp2_with fail
    go_ret
    exact ⟨rfl, rfl⟩
theorem sV_eq (s : ByteArray) (x : Str) (b : Bool) (h : (s.data.toList == x) = b) : (s.toList == x) = b := by rw [ByteArray.toList_eq]; exact h
set_option maxHeartbeats 1000000 in
theorem denies_any {w : World} {q : PP} (h : ProcAt w q) (s : ByteArray) :
    Calls Try.prog 47 #[.pointer (some ⟨q.p, 0, none⟩), .string s] w fun e w' => e = .returned (.bool (denB q.x s.data.toList)) ∧ w = w' := by
  have c1 := h.cell 1
  have c2 := h.cell 2
  simp [procV, sV] at c1 c2
  have e1 := sV_eq s q.x.user _ rfl
  have e2 := sV_eq s q.x.by_ _ rfl
  have E := hid (show denB q.x s.data.toList = ((s.data.toList == q.x.user) || (s.data.toList == q.x.by_)) from rfl)
  generalize denB q.x s.data.toList = R at *
  generalize (s.data.toList == q.x.user) = b1 at *
  generalize (s.data.toList == q.x.by_) = b2 at *
  rw [E.out]
  cases b1 <;> cases b2
  all_goals
    go_enter Try.func47, Try.ntmps47
    go_wp2_with fail
    go_ret
    exact ⟨rfl, rfl⟩
end Go.Proofs.Ytionejokdfgmhaa
