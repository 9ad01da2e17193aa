/- The program's workflows, seen from a world at which a call began; run; the examples. -/
import Derived.Test.YtionejokdfgmhaaDo
namespace Go.Proofs.Ytionejokdfgmhaa
open Go.RowKit Go.Maps

/-- Blocks that must stay as they were in a world. -/
structure Prot where
  w : World
  bl : List Nat
/-- Since w0 nothing that lay there was written; the workflows lie in newer blocks, apart from those of p, which are as they were. -/
structure St (w0 w : World) (wb mb : Nat) (U : Wfs) (p : Prot) : Prop where
  st : ∃ X, WfAt w wb mb X ∧ absW X = U ∧ Kept [] w0 w ∧ (∀ i ∈ wdom wb mb X, w0.heap.size ≤ i) ∧ ∀ i ∈ p.bl, i < w.heap.size ∧ i ∉ wdom wb mb X ∧ w.heap[i]? = p.w.heap[i]?
theorem St.kept {w0 w : World} {wb mb : Nat} {U : Wfs} {p : Prot} (h : St w0 w wb mb U p) : Kept [] w0 w := by obtain ⟨X, _, _, k, _⟩ := h.st; exact k
theorem St.keptN {w0 w w' : World} {wb mb : Nat} {U : Wfs} {p : Prot} (h : St w0 w wb mb U p) (k : Kept [] w w') : St w0 w' wb mb U p := by
  obtain ⟨X, h1, e, k0, hd, hp⟩ := h.st
  exact ⟨X, h1.keptN k, e, k0.step k (by simp), hd, fun i hi => ⟨Nat.lt_of_lt_of_le (hp i hi).1 k.size, (hp i hi).2.1, (k.block i (hp i hi).1 (by simp)).trans (hp i hi).2.2⟩⟩
theorem St.left {w0 w w' : World} {wb mb : Nat} {X : PXs} {U' : Wfs} {p : Prot} (k0 : Kept [] w0 w) (hd : ∀ i ∈ wdom wb mb X, w0.heap.size ≤ i) (hp : ∀ i ∈ p.bl, i < w.heap.size ∧ i ∉ wdom wb mb X ∧ w.heap[i]? = p.w.heap[i]?) (h : Left w w' wb mb X U') : St w0 w' wb mb U' p := by
  obtain ⟨X', h', e, k, hd'⟩ := h
  refine ⟨X', h', e, k0.trans k (fun i hi => .inr (hd i hi)), fun i hi => (hd' i hi).elim (hd i) (fun e => Nat.le_trans k0.size e), fun i hi => ?_⟩
  obtain ⟨h1, h2, h3⟩ := hp i hi
  refine ⟨Nat.lt_of_lt_of_le h1 k.size, fun hm => ?_, (k.block i h1 h2).trans h3⟩
  rcases hd' i hm with e | e
  · exact h2 e
  · omega
theorem St.free {w0 w : World} {wb mb : Nat} {U : Wfs} {p : Prot} (h : St w0 w wb mb U p) (wp : World) : St w0 w wb mb U ⟨wp, []⟩ := by
  obtain ⟨X, h1, e, k0, hd, _⟩ := h.st
  exact ⟨X, h1, e, k0, hd, by simp⟩
/-- A new list is protected from now on. -/
theorem St.guard {w0 w w' : World} {wb mb : Nat} {U : Wfs} {p : Prot} (h : St w0 w wb mb U p) (k : Kept [] w w') {a : Option Addr} {l : List Str} (hs : StrsAt w' a l) (hl : 0 < l.length) (hn : ∀ i ∈ fp a, w.heap.size ≤ i) : St w0 w' wb mb U ⟨w', fp a⟩ := by
  obtain ⟨X, h1, e, k0, hd, _⟩ := h.st
  refine ⟨X, h1.keptN k, e, k0.step k (by simp), hd, fun i hi => ⟨?_, fun hm => ?_, rfl⟩⟩
  · obtain ⟨b, off, rfl, hb, _⟩ := StrsAt.get hs hl
    simp [fp] at hi
    omega
  · have := h1.lt i hm; have := hn i hi; omega
theorem strs_pin {w w' : World} {a : Option Addr} {l : List Str} (h : StrsAt w a l) (hp : ∀ i ∈ fp a, w'.heap[i]? = w.heap[i]?) : StrsAt w' a l := by
  refine ⟨?_, h.few⟩
  rcases h.cells with h0 | ⟨b, off, rfl, hb, hc⟩
  · exact .inl h0
  · have hbb := hp b (by simp [fp])
    refine .inr ⟨b, off, rfl, ?_, fun i hi j v hv => ?_⟩
    · have h1 : w.heap[b]? = some w.heap[b] := Array.getElem?_eq_getElem hb
      rw [h1] at hbb
      exact lt_of_heap hbb
    · rw [World.cell?_of_block (w := w) hbb]
      exact hc i hi j v hv
theorem St.list {w0 w : World} {wb mb : Nat} {U : Wfs} {wp : World} {a : Option Addr} (h : St w0 w wb mb U ⟨wp, fp a⟩) {l : List Str} (hs : StrsAt wp a l) : StrsAt w a l := by
  obtain ⟨X, _, _, _, _, hp⟩ := h.st
  exact strs_pin hs (fun i hi => (hp i hi).2.2)
theorem Kept.bel {w0 w : World} (k : Kept [] w0 w) : Below w0.heap.size w0 w := k.toBelow (by simp)
theorem St.bel {w0 w : World} {wb mb : Nat} {U : Wfs} {p : Prot} (h : St w0 w wb mb U p) : Below w0.heap.size w0 w := h.kept.bel

theorem new_st {w0 w : World} (k0 : Kept [] w0 w) (wp : World) : Calls Try.prog 9 #[] w fun e w' => ∃ wb mb, e = .returned (.pointer (some ⟨wb, 0, none⟩)) ∧ St w0 w' wb mb [] ⟨wp, []⟩ := by
  refine (new_wf w).mono ?_
  rintro e w' ⟨rfl, h, k, hz⟩
  exact ⟨_, _, rfl, [], h, rfl, k0.step k (by simp), fun i hi => by
    have := k0.size
    simp [wdom, pdom] at hi
    omega, by simp⟩
theorem start_st {w0 w : World} {wb mb : Nat} {U : Wfs} {p : Prot} (h : St w0 w wb mb U p) (s kind user by_ : ByteArray) (hs : s.size ≤ maxLen) (hk : kind.size ≤ maxLen) (hu : user.size ≤ maxLen) (hb : by_.size ≤ maxLen) {a : Option Addr} {cap : Nat} {l : List Stp} (hl : StpsAt w a l) (hsh : ShortT l) (until_ now : Int) {c : Int} (hc : startC U s.data.toList kind.data.toList user.data.toList by_.data.toList l until_ now = c) :
    Calls Try.prog 18 #[.pointer (some ⟨wb, 0, none⟩), .string s, .string kind, .string user, .string by_, .slice a l.length cap, .int .i64 until_, .int .i64 now] w fun e w' => e = .returned (.int .i64 c) ∧ St w0 w' wb mb (startU U s.data.toList kind.data.toList user.data.toList by_.data.toList l until_ now) p := by
  obtain ⟨X, h1, rfl, k0, hd, hp⟩ := h.st
  subst hc
  exact (start_any h1 s kind user by_ hs hk hu hb hl hsh until_ now).mono fun _ _ ⟨e, hL⟩ => ⟨e, St.left k0 hd hp hL⟩
theorem approve_st {w0 w : World} {wb mb : Nat} {U : Wfs} {p : Prot} (h : St w0 w wb mb U p) (s by_ : ByteArray) (hs : s.size ≤ maxLen) {a : Option Addr} {cap : Nat} {g : List Str} (hg : StrsAt w a g) (now : Int) {c : Int} (hc : apprC U s.data.toList by_.data.toList g now = c) :
    Calls Try.prog 26 #[.pointer (some ⟨wb, 0, none⟩), .string s, .string by_, .slice a g.length cap, .int .i64 now] w fun e w' => e = .returned (.int .i64 c) ∧ St w0 w' wb mb (apprU U s.data.toList by_.data.toList g now) p := by
  obtain ⟨X, h1, rfl, k0, hd, hp⟩ := h.st
  subst hc
  exact (approve_any h1 s by_ hs hg now).mono fun _ _ ⟨e, hL⟩ => ⟨e, St.left k0 hd hp hL⟩
theorem reject_st {w0 w : World} {wb mb : Nat} {U : Wfs} {p : Prot} (h : St w0 w wb mb U p) (s by_ : ByteArray) (hs : s.size ≤ maxLen) {a : Option Addr} {cap : Nat} {g : List Str} (hg : StrsAt w a g) (now : Int) {c : Int} (hc : rejC U s.data.toList g now = c) :
    Calls Try.prog 27 #[.pointer (some ⟨wb, 0, none⟩), .string s, .string by_, .slice a g.length cap, .int .i64 now] w fun e w' => e = .returned (.int .i64 c) ∧ St w0 w' wb mb (rejU U s.data.toList g now) p := by
  obtain ⟨X, h1, rfl, k0, hd, hp⟩ := h.st
  subst hc
  exact (reject_any h1 s by_ hs hg now).mono fun _ _ ⟨e, hL⟩ => ⟨e, St.left k0 hd hp hL⟩
theorem take_st {w0 w : World} {wb mb : Nat} {U : Wfs} {p : Prot} (h : St w0 w wb mb U p) (s : ByteArray) (hs : s.size ≤ maxLen) (now : Int) {r : Str × Str × Int} (hc : takeR U s.data.toList now = r) :
    Calls Try.prog 22 #[.pointer (some ⟨wb, 0, none⟩), .string s, .int .i64 now] w fun e w' => e = .returned (.tuple #[.string ⟨r.1.toArray⟩, .string ⟨r.2.1.toArray⟩, .int .i64 r.2.2]) ∧ St w0 w' wb mb (takeU U s.data.toList now) p := by
  obtain ⟨X, h1, rfl, k0, hd, hp⟩ := h.st
  subst hc
  exact (take_any h1 s hs now).mono fun _ _ ⟨e, hL⟩ => ⟨e, St.left k0 hd hp hL⟩
theorem state_st {w0 w : World} {wb mb : Nat} {U : Wfs} {p : Prot} (h : St w0 w wb mb U p) (s : ByteArray) (hs : s.size ≤ maxLen) (now : Int) {r : Str × Nat} (hc : stR U s.data.toList now = r) :
    Calls Try.prog 16 #[.pointer (some ⟨wb, 0, none⟩), .string s, .int .i64 now] w fun e w' => e = .returned (.tuple #[.string ⟨r.1.toArray⟩, .int .i64 (r.2 : Nat)]) ∧ Kept [] w w' := by
  obtain ⟨X, h1, rfl, k0, hd, hp⟩ := h.st
  subst hc
  exact (statew_any h1 s hs now).mono fun _ _ ⟨e, hL⟩ => ⟨e, hL.kept⟩
theorem open_st {w0 w : World} {wb mb : Nat} {U : Wfs} {p : Prot} (h : St w0 w wb mb U p) (g : ByteArray) (now : Int) {l : List Str} (hc : openL U g.data.toList now = l) :
    Calls Try.prog 20 #[.pointer (some ⟨wb, 0, none⟩), .string g, .int .i64 now] w fun e w' => Gives w w' e l := by
  obtain ⟨X, h1, rfl, k0, hd, hp⟩ := h.st
  subst hc
  exact open_any h1 g now
theorem cancel_st {w0 w : World} {wb mb : Nat} {U : Wfs} {p : Prot} (h : St w0 w wb mb U p) (u : ByteArray) {c : Int} (hc : cancN U u.data.toList = c) :
    Calls Try.prog 28 #[.pointer (some ⟨wb, 0, none⟩), .string u] w fun e w' => e = .returned (.int .i64 c) ∧ St w0 w' wb mb (cancU U u.data.toList) p := by
  obtain ⟨X, h1, rfl, k0, hd, hp⟩ := h.st
  subst hc
  exact (cancel_any h1 u).mono fun _ _ ⟨e, hL⟩ => ⟨e, St.left k0 hd hp hL⟩
/-- A result is handed back; what it holds does not matter. -/
theorem do_st {w0 w : World} {wb mb : Nat} {U : Wfs} {p : Prot} (h : St w0 w wb mb U p) (x : OpD) (hs : Small x) (hl : OpLists w x) :
    Calls Try.prog 14 #[.pointer (some ⟨wb, 0, none⟩), .agg #[.int .i64 x.kind, .string ⟨x.id.toArray⟩, .string ⟨x.name.toArray⟩, .string ⟨x.user.toArray⟩, .string ⟨x.by_.toArray⟩, .slice x.sa x.steps.length x.sc, .slice x.ga x.groups.length x.gc, .int .i64 x.until_, .int .i64 x.now]] w fun e w' => DoRes w w' e (doR U x) ∧ St w0 w' wb mb (doU U x) p := by
  obtain ⟨X, h1, rfl, k0, hd, hp⟩ := h.st
  exact (do_any h1 x hs hl).mono fun _ _ ⟨e, hL⟩ => ⟨e, St.left k0 hd hp hL⟩

/-! ### run -/
def runU (l : List OpD) : Wfs := l.foldl doU []
theorem runU_snoc (l : List OpD) (k : Nat) (h : k < l.length) : runU (l.take (k + 1)) = doU (runU (l.take k)) l[k] := by
  unfold runU
  rw [List.take_succ_eq_append_getElem h, List.foldl_append]
  rfl
set_option maxHeartbeats 4000000 in
set_option maxRecDepth 100000 in
theorem run_any {w : World} {a : Option Addr} {cap : Nat} {l : List OpD} (h : OpsAt w a l) (hs : ∀ x ∈ l, Small x) :
    Calls Try.prog 19 #[.slice a l.length cap] w fun e w' => ∃ wb mb, e = .returned (.pointer (some ⟨wb, 0, none⟩)) ∧ St w w' wb mb (runU l) ⟨w, []⟩ := by
  have hf := h.cells.few
  unfold maxLen at hf
  have HS := hid hs
  have H := hid h
  clear h hs
  go_enter Try.func19, Try.ntmps19
  go_wp2_with fail
  refine (new_st (Kept.refl [] w) w).mono ?_
  rintro e w1 ⟨wb, mb, rfl, st⟩
  have ST := hid st
  clear st
  go_wp2_with fail
  go_loopw [8] (fun i wr => ∃ k : Nat, k ≤ l.length ∧ i = .int .i64 k ∧ St w wr wb mb (runU (l.take k)) ⟨w, []⟩) (fun i _ => l.length - (intOf i).toNat)
  case atStart => exact ⟨0, Nat.zero_le _, rfl, ST.out⟩
  case round =>
    obtain ⟨k, hk, rfl, hst⟩ := hrel
    have HST := hid hst
    clear hst
    by_cases hlt : k < l.length
    · obtain ⟨b, off, rfl, hb, hc, hl1⟩ := (H.out.keptN HST.out.kept).get hlt
      have hb1 : (0 : Int) ≤ k := by omega
      have hb2 : (k : Int) < l.length := by omega
      have HSM := hid (HS.out _ (List.getElem_mem hlt))
      have HN := hid (runU_snoc l k hlt)
      have HL1 := hid hl1
      clear hl1
      generalize l[k] = x at *
      obtain ⟨d0, d1, d2, d3, d4, d5, d6, d7, d8⟩ := hc
      unfold sV at d1 d2 d3 d4
      have HD := hid (do_st HST.out x HSM.out HL1.out)
      go_wp2_with fail
      refine HD.out.mono ?_
      rintro e w2 ⟨⟨a2, c2, rfl, st2, hn2⟩, h2⟩
      go_wp2_with fail
      go_roundw
      case rel => exact ⟨k + 1, by omega, by go_num, by rw [HN.out]; exact h2⟩
      case measure => simp [intOf]; omega
    · have HT := hid (List.take_of_length_le (l := l) (i := k) (by omega))
      rw [HT.out] at HST
      go_wp2_with fail
      go_ret
      exact ⟨wb, mb, rfl, HST.out⟩

/-! ### the examples -/
theorem strs_lit {w : World} {b : Nat} {cs : Array Value} {t : TypeId} {l : List Str} (h : w.heap[b]? = some (.cells cs t (0, 0))) (hc : cs.toList = rowV encS l) (hl : l.length ≤ maxLen) : StrsAt w (some ⟨b, 0, none⟩) l := list_box encSOk h hc hl
def sX : Str := [120]
def sY : Str := [121]
def sRec : Str := [114, 101, 99, 111, 118, 101, 114]
def sEve : Str := [101, 118, 101]
def sDan : Str := [100, 97, 110]
def sAnn : Str := [97, 110, 110]
def sBob : Str := [98, 111, 98]
def sCid : Str := [99, 105, 100]
def sHelp : Str := [104, 101, 108, 112, 100, 101, 115, 107]
def sSec : Str := [115, 101, 99, 117, 114, 105, 116, 121]
def stpL : List Stp := [(sHelp, 1), (sSec, 2)]
set_option maxHeartbeats 400000 in
theorem steps_any (w : World) : Calls Try.prog 25 #[] w fun e w' => e = .returned (.slice (some ⟨w.heap.size, 0, none⟩) 2 2) ∧ StpsAt w' (some ⟨w.heap.size, 0, none⟩) stpL ∧ Kept [] w w' := by
  go_enter Try.func25, Try.ntmps25
  go_wp2
  go_ret
  exact ⟨rfl, list_box encTOk (heap_alloc_new w _) rfl (by simp [stpL, maxLen]), (Kept.refl [] w).alloc _⟩
def u1 : Wfs := startU [] sX sRec sEve sDan stpL 100 5
def u2 : Wfs := apprU u1 sX sEve [sHelp] 6
def u3 : Wfs := apprU u2 sX sAnn [sHelp, sSec] 6
def u4 : Wfs := apprU u3 sX sAnn [sHelp, sSec] 6
def u5 : Wfs := apprU u4 sX sBob [sSec] 6
def u6 : Wfs := takeU u5 sX 6
def u7 : Wfs := apprU u6 sX sCid [sSec] 99
def u8 : Wfs := takeU u7 sX 200
def u9 : Wfs := takeU u8 sX 200
def u10 : Wfs := startU u9 sY sRec sEve sDan [] 100 5
def u11 : Wfs := rejU u10 sX [sSec] 6
def u12 : Wfs := cancU u11 sEve
theorem v1 : startC [] sX sRec sEve sDan stpL 100 5 = 0 := by decide +kernel
theorem v2 : apprC u1 sX sEve [sHelp] 6 = 11 := by decide +kernel
theorem v3 : apprC u2 sX sAnn [sHelp, sSec] 6 = 0 := by decide +kernel
theorem v4 : apprC u3 sX sAnn [sHelp, sSec] 6 = 7 := by decide +kernel
theorem v4o : openL u4 sSec 6 = [sX] := by
  unfold openL
  rw [show (u4.filter fun p => openB p.2 sSec (lim 6)).map (·.1) = [sX] by decide +kernel]
  simp [sortS]
theorem v5 : apprC u4 sX sBob [sSec] 6 = 0 := by decide +kernel
theorem v6 : takeR u5 sX 6 = ([], [], 23) := by decide +kernel
theorem v7 : apprC u6 sX sCid [sSec] 99 = 0 := by decide +kernel
theorem v7s : stR u7 sX 200 = (sApproved, 2) := by decide +kernel
theorem v8 : takeR u7 sX 200 = (sRec, sEve, 0) := by decide +kernel
theorem v9 : takeR u8 sX 200 = ([], [], 18) := by decide +kernel
theorem v10 : startC u9 sY sRec sEve sDan [] 100 5 = 6 := by decide +kernel
theorem v10s : stR u10 sY 5 = ([], 0) := by decide +kernel
theorem v10o : openL u10 sSec 99 = [] := by
  unfold openL
  rw [show (u10.filter fun p => openB p.2 sSec (lim 99)).map (·.1) = [] by decide +kernel]
  simp [sortS]
theorem v11 : rejC u10 sX [sSec] 6 = 12 := by decide +kernel
theorem v12 : cancN u11 sEve = 1 := by decide +kernel
theorem v13 : cancN u12 sEve = 0 := by decide +kernel
end Go.Proofs.Ytionejokdfgmhaa
