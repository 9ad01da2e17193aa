/- Sessions in memory: entries, the map to them; New, made, until, find. -/
import Derived.Test.YtakccoiecmibcaaLaw
import Derived.Test.YtakccoiecmibcaaPmap
import Derived.Test.YtakccoiecmibcaaLeaf
import Derived.Laws.Rows
namespace Go.Proofs.Ytakccoiecmibcaa
open Go.RowKit Go.Maps

theorem lawS : Keyed Try.prog 9 := string_keyed Try.underlying9
def encP (p : Prf) : List Value := [.int .i64 p.1, .int .i64 p.2]
theorem encPOk : Enc Try.prog 59 2 16 encP :=
  ⟨fun _ => rfl, fun x v hv => by simp [encP] at hv; rcases hv with rfl | rfl <;> rfl, by omega, by omega, by
    obtain ⟨i0, hi, h1, h2, h3⟩ := info_parts (show (Try.prog.info? 59).map (fun i => (i.zero, i.size, i.bytes)) = some (some (.agg #[.int .i64 0, .int .i64 0]), 2, 16) by kernel_rfl)
    exact ⟨i0, _, hi, h1, h2, h3, rfl⟩⟩
abbrev PrfsAt (w : World) (a : Option Addr) (l : List Prf) : Prop := ListAt 2 encP w a l
theorem PrfsAt.get {w : World} {a : Option Addr} {l : List Prf} (h : PrfsAt w a l) {i : Nat} (hi : i < l.length) : ∃ b off, a = some ⟨b, off, none⟩ ∧ b < w.heap.size ∧ w.cell? ⟨b, off + i * 2, none⟩ = some (.int .i64 l[i].1) ∧ w.cell? ⟨b, off + i * 2 + 1, none⟩ = some (.int .i64 l[i].2) := by
  obtain ⟨b, off, e, hb, hc⟩ := h.at hi
  exact ⟨b, off, e, hb, by have := hc 0 _ rfl; rwa [Nat.add_zero] at this, hc 1 _ rfl⟩
theorem size_str (s : Str) : (⟨s.toArray⟩ : ByteArray).size = s.length := by simp [ByteArray.size]

/-- Where an entry lies. -/
structure EP where
  p : Nat
  pa : Option Addr
  pc : Nat
  ca : Option Addr
  cc : Nat
  id : Str
  x : Sess
abbrev EXs := List (Str × EP)
def entV (q : EP) : Array Value := #[sV q.id, sV q.x.user, sV q.x.tenant, sV q.x.device, .int .i64 q.x.started, .int .i64 q.x.seen, .int .i64 q.x.until_, .slice q.pa q.x.proofs.length q.pc, .slice q.ca q.x.clients.length q.cc, .bool q.x.ended]
def edm (q : EP) : List Nat := q.p :: (fp q.pa ++ fp q.ca)
structure EntAt (w : World) (q : EP) : Prop where
  blk : w.heap[q.p]? = some (.cells (entV q) 70 (0, 0))
  prfs : w.ownsRow 0 59 2 (.slice q.pa q.x.proofs.length q.pc) q.x.proofs.length (rowV encP q.x.proofs)
  clis : w.ownsRow 0 9 1 (.slice q.ca q.x.clients.length q.cc) q.x.clients.length (rowV encS q.x.clients)
theorem entLaw : PLaw EntAt edm EP.p where
  kept := fun S w w' q h k hS => ⟨k.at h.blk (hS _ (by simp [edm])), row_kept h.prfs k (fun i hi => hS i (by simp [edm, hi])), row_kept h.clis k (fun i hi => hS i (by simp [edm, hi]))⟩
  own := fun q => by simp [edm]
  cells := fun w q h i hi => by
    simp only [edm, List.mem_cons, List.mem_append] at hi
    rcases hi with rfl | hi | hi
    · exact ⟨_, _, _, h.blk⟩
    · obtain ⟨cur, hc⟩ := row_blk h.prfs i hi; exact ⟨_, _, _, hc⟩
    · obtain ⟨cur, hc⟩ := row_blk h.clis i hi; exact ⟨_, _, _, hc⟩
theorem EntAt.prf {w : World} {q : EP} (h : EntAt w q) : PrfsAt w q.pa q.x.proofs := row_list encPOk h.prfs
theorem EntAt.cli {w : World} {q : EP} (h : EntAt w q) : StrsAt w q.ca q.x.clients := row_list encSOk h.clis
theorem EntAt.keptN {w w' : World} {q : EP} (h : EntAt w q) (k : Kept [] w w') : EntAt w' q := entLaw.kept [] w w' q h k (by simp)
theorem EntAt.drew {w : World} {q : EP} (h : EntAt w q) (n : Nat) : EntAt (w.drewN n) q := ⟨h.blk, h.prfs, h.clis⟩
/-- The ten cells of an entry. -/
structure EC (w : World) (g o : Nat) (q : EP) : Prop where
  c0 : w.cell? ⟨g, o, none⟩ = some (.string ⟨q.id.toArray⟩)
  c1 : w.cell? ⟨g, o + 1, none⟩ = some (.string ⟨q.x.user.toArray⟩)
  c2 : w.cell? ⟨g, o + 2, none⟩ = some (.string ⟨q.x.tenant.toArray⟩)
  c3 : w.cell? ⟨g, o + 3, none⟩ = some (.string ⟨q.x.device.toArray⟩)
  c4 : w.cell? ⟨g, o + 4, none⟩ = some (.int .i64 q.x.started)
  c5 : w.cell? ⟨g, o + 5, none⟩ = some (.int .i64 q.x.seen)
  c6 : w.cell? ⟨g, o + 6, none⟩ = some (.int .i64 q.x.until_)
  c7 : w.cell? ⟨g, o + 7, none⟩ = some (.slice q.pa q.x.proofs.length q.pc)
  c8 : w.cell? ⟨g, o + 8, none⟩ = some (.slice q.ca q.x.clients.length q.cc)
  c9 : w.cell? ⟨g, o + 9, none⟩ = some (.bool q.x.ended)
/-- The same, at a block's head. -/
structure EC0 (w : World) (g : Nat) (q : EP) : Prop where
  c0 : w.cell? ⟨g, 0, none⟩ = some (.string ⟨q.id.toArray⟩)
  c1 : w.cell? ⟨g, 1, none⟩ = some (.string ⟨q.x.user.toArray⟩)
  c2 : w.cell? ⟨g, 2, none⟩ = some (.string ⟨q.x.tenant.toArray⟩)
  c3 : w.cell? ⟨g, 3, none⟩ = some (.string ⟨q.x.device.toArray⟩)
  c4 : w.cell? ⟨g, 4, none⟩ = some (.int .i64 q.x.started)
  c5 : w.cell? ⟨g, 5, none⟩ = some (.int .i64 q.x.seen)
  c6 : w.cell? ⟨g, 6, none⟩ = some (.int .i64 q.x.until_)
  c7 : w.cell? ⟨g, 7, none⟩ = some (.slice q.pa q.x.proofs.length q.pc)
  c8 : w.cell? ⟨g, 8, none⟩ = some (.slice q.ca q.x.clients.length q.cc)
  c9 : w.cell? ⟨g, 9, none⟩ = some (.bool q.x.ended)
theorem ec_of {w : World} {g : Nat} {q : EP} {t : TypeId} (h : w.heap[g]? = some (.cells (entV q) t (0, 0))) : EC0 w g q := by
  constructor <;> (rw [cell_at h]; rfl)
theorem EntAt.ec {w : World} {q : EP} (h : EntAt w q) : EC0 w q.p q := ec_of h.blk
theorem EntAt.free {w : World} {q : EP} (h : EntAt w q) (i : Nat) : w.frozen? ⟨q.p, i, none⟩ = false := free_at h.blk i

def absW (X : EXs) : Sss := X.map fun p => (p.1, p.2.x)
theorem absW_look (X : EXs) (k : Str) : alook (absW X) k = (alook X k).map EP.x := by
  induction X with
  | nil => rfl
  | cons a r ih =>
    show alook ((a.1, a.2.x) :: absW r) k = _
    rw [alook_cons, alook_cons, ih]
    by_cases h : a.1 = k
    · rw [if_pos h, if_pos h]; rfl
    · rw [if_neg h, if_neg h]
theorem absW_len (X : EXs) : (absW X).length = X.length := List.length_map _
theorem absW_app (X : EXs) (k : Str) (q : EP) : absW (X ++ [(k, q)]) = absW X ++ [(k, q.x)] := by simp [absW]
theorem absW_put (X : EXs) (k : Str) (q : EP) : absW (aput X k q) = aput (absW X) k q.x := by
  unfold aput
  rw [absW_look]
  cases alook X k with
  | none => simp [absW]
  | some y =>
    simp only [Option.isSome_some, if_true, Option.map_some, absW, List.map_map]
    apply List.map_congr_left
    intro p _
    by_cases h : p.1 = k <;> simp [h]
/-- The sessions of the program. -/
structure SesAt (w : World) (sb mb : Nat) (idle abs : Int) (X : EXs) : Prop where
  blk : w.heap[sb]? = some (.cells #[.int .i64 idle, .int .i64 abs, .map (some mb)] 64 (0, 0))
  map : PMap Try.prog 9 EntAt edm EP.p w mb X
  out : sb ∉ pdom edm mb X
  len : X.length ≤ 256
  good : Good idle abs (absW X)
  key : ∀ p ∈ X, p.2.id = p.1
  ri : 1 ≤ idle ∧ idle ≤ 1099511627776
  ra : 1 ≤ abs ∧ abs ≤ 1099511627776
def sdom (sb mb : Nat) (X : EXs) : List Nat := sb :: pdom edm mb X
theorem SesAt.kept {S : List Nat} {w w' : World} {sb mb : Nat} {idle abs : Int} {X : EXs} (h : SesAt w sb mb idle abs X) (k : Kept S w w') (hS : ∀ i ∈ sdom sb mb X, i ∉ S) : SesAt w' sb mb idle abs X :=
  ⟨k.at h.blk (hS sb (by simp [sdom])), h.map.kept entLaw k (fun i hi => hS i (by simp [sdom, hi])), h.out, h.len, h.good, h.key, h.ri, h.ra⟩
theorem SesAt.keptN {w w' : World} {sb mb : Nat} {idle abs : Int} {X : EXs} (h : SesAt w sb mb idle abs X) (k : Kept [] w w') : SesAt w' sb mb idle abs X := h.kept k (by simp)
theorem SesAt.lt {w : World} {sb mb : Nat} {idle abs : Int} {X : EXs} (h : SesAt w sb mb idle abs X) : ∀ i ∈ sdom sb mb X, i < w.heap.size := by
  intro i hi
  rcases List.mem_cons.1 hi with e | hi
  · rw [e]; exact lt_of_heap h.blk
  · exact h.map.lt entLaw i hi
theorem SesAt.c0 {w : World} {sb mb : Nat} {idle abs : Int} {X : EXs} (h : SesAt w sb mb idle abs X) : w.cell? ⟨sb, 0, none⟩ = some (.int .i64 idle) := by rw [cell_at h.blk]; rfl
theorem SesAt.c1 {w : World} {sb mb : Nat} {idle abs : Int} {X : EXs} (h : SesAt w sb mb idle abs X) : w.cell? ⟨sb, 1, none⟩ = some (.int .i64 abs) := by rw [cell_at h.blk]; rfl
theorem SesAt.c2 {w : World} {sb mb : Nat} {idle abs : Int} {X : EXs} (h : SesAt w sb mb idle abs X) : w.cell? ⟨sb, 2, none⟩ = some (.map (some mb)) := by rw [cell_at h.blk]; rfl
theorem zeroPtr (w : World) : (zeroValue 66).run Try.prog w = .ok (.pointer none) w := by kernel_rfl
theorem SesAt.look {w : World} {sb mb : Nat} {idle abs : Int} {X : EXs} (h : SesAt w sb mb idle abs X) (s : ByteArray) (hs : s.size ≤ maxLen) :
    (Instr.lookup 62 (.map (some mb)) (.string s) false).run Try.prog w = .ok (pval EP.p (alook X s.data.toList)) w :=
  h.map.look lawS Try.underlying9 Try.underlying62 zeroPtr s hs
theorem SesAt.lenrun {w : World} {sb mb : Nat} {idle abs : Int} {X : EXs} (h : SesAt w sb mb idle abs X) (ty : TypeId) : (Builtin.len_ #[62] ty #[.map (some mb)]).run Try.prog w = .ok (.int .i64 X.length) w :=
  h.map.len Try.underlying62 ty
/-- What a writing call leaves. -/
def Left (w w' : World) (sb mb : Nat) (idle abs : Int) (X : EXs) (U' : Sss) : Prop := ∃ X', SesAt w' sb mb idle abs X' ∧ absW X' = U' ∧ Kept (sdom sb mb X) w w' ∧ ∀ i ∈ sdom sb mb X', i ∈ sdom sb mb X ∨ w.heap.size ≤ i
theorem Left.same {w w' : World} {sb mb : Nat} {idle abs : Int} {X : EXs} (h : SesAt w sb mb idle abs X) (k : Kept [] w w') : Left w w' sb mb idle abs X (absW X) :=
  ⟨X, h.keptN k, rfl, k.mono (by simp), fun _ hi => .inl hi⟩
theorem updU_at {X : EXs} {k : Str} {q : EP} (h : alook X k = some q) (f : Sess → Sess) : updU (absW X) k f = aput (absW X) k (f q.x) := by
  unfold updU; rw [absW_look, h]; rfl
theorem pdom_put {X : EXs} {k : Str} {q : EP} {i mb : Nat} (hi : i ∈ pdom edm mb (aput X k q)) : i ∈ pdom edm mb X ∨ i ∈ edm q := by
  rcases pdom_mem.1 hi with e | ⟨p, hp, hd⟩
  · exact .inl (pdom_mem.2 (.inl e))
  · rcases aput_mem hp with e | ⟨hp, _⟩
    · rw [e] at hd; exact .inr hd
    · exact .inl (pdom_mem.2 (.inr ⟨p, hp, hd⟩))
/-- An entry has been written. -/
theorem SesAt.upd {S : List Nat} {w w' : World} {sb mb : Nat} {idle abs : Int} {X : EXs} (h : SesAt w sb mb idle abs X) {k : Str} {q q' : EP} (hq : alook X k = some q) (kp : Kept S w w') (hS : ∀ i ∈ S, i ∈ edm q ∨ w.heap.size ≤ i) (hc : EntAt w' q') (hp : q'.p = q.p) (hid : q'.id = q.id) (hd : ∀ i ∈ edm q', i ∈ edm q ∨ w.heap.size ≤ i) {f : Sess → Sess} (hf : q'.x = f q.x) (hi : Inv idle abs (f q.x)) :
    Left w w' sb mb idle abs X (updU (absW X) k f) := by
  have hm := alook_some hq
  have hin : ∀ i ∈ edm q, i ∈ pdom edm mb X := fun i hi => pdom_mem.2 (.inr ⟨_, hm, hi⟩)
  have hU : absW (aput X k q') = updU (absW X) k f := by rw [absW_put, updU_at hq, hf]
  refine ⟨aput X k q', ⟨kp.at h.blk (fun hs => ?_), h.map.upd entLaw hq kp hS hc hp hd, fun hi => ?_, ?_, ?_, fun p hp' => ?_, h.ri, h.ra⟩, hU, kp.mono (fun i hi => ?_), fun i hi => ?_⟩
  · rcases hS sb hs with e | e
    · exact h.out (hin _ e)
    · have := lt_of_heap h.blk; omega
  · rcases pdom_put hi with e | e
    · exact h.out e
    · rcases hd sb e with e2 | e2
      · exact h.out (hin _ e2)
      · have := lt_of_heap h.blk; omega
  · rw [aput_len, hq]; exact h.len
  · rw [hU]
    refine h.good.upd _ _ (fun x hx => ?_)
    rw [absW_look, hq] at hx
    injection hx with hx
    rw [← hx]
    exact hi
  · rcases aput_mem hp' with rfl | ⟨hp', _⟩
    · show q'.id = k
      rw [hid]; exact h.key _ hm
    · exact h.key p hp'
  · rcases hS i hi with e | e
    · exact .inl (by unfold sdom; exact List.mem_cons_of_mem _ (hin i e))
    · exact .inr e
  · unfold sdom at hi ⊢
    rcases List.mem_cons.1 hi with e | hi
    · exact .inl (by rw [e]; exact List.mem_cons_self ..)
    · rcases pdom_put hi with e | e
      · exact .inl (List.mem_cons_of_mem _ e)
      · rcases hd i e with e2 | e2
        · exact .inl (List.mem_cons_of_mem _ (hin i e2))
        · exact .inr e2
/-- One cell of an entry is written. -/
theorem EntAt.set {w : World} {q : EP} (h : EntAt w q) (q' : EP) (i : Nat) (v : Value) (he : entV q' = (entV q).set! i v) (hp : q'.p = q.p) (hs : q'.pa = q.pa) (hsc : q'.pc = q.pc) (ha : q'.ca = q.ca) (hac : q'.cc = q.cc) (hst : q'.x.proofs = q.x.proofs) (hap : q'.x.clients = q.x.clients) : EntAt (w.setCell ⟨q.p, i, none⟩ v) q' := by
  have hb := heap_setCell_same w q.p i _ _ v h.blk
  have k : Kept [q.p] w (w.setCell ⟨q.p, i, none⟩ v) := (Kept.refl [q.p] w).setCell (.inl (by simp)) v
  have hne : ∀ (e : TypeId) (a : Option Addr), e ≠ 70 → (∀ i ∈ fp a, ∃ cur, w.heap[i]? = some (.cells cur e (0, 0))) → ∀ i ∈ fp a, i ∉ [q.p] := fun e a hne hb i hi hm => by
    simp at hm
    subst hm
    obtain ⟨cur, hc⟩ := hb _ hi
    rw [h.blk] at hc
    injection hc with hc
    injection hc with _ hc _
    exact hne hc.symm
  refine ⟨?_, ?_, ?_⟩
  · rw [hp, he]; exact hb
  · rw [hs, hsc, hst]; exact row_kept h.prfs k (hne _ _ (by decide) (row_blk h.prfs))
  · rw [ha, hac, hap]; exact row_kept h.clis k (hne _ _ (by decide) (row_blk h.clis))

end Go.Proofs.Ytakccoiecmibcaa
