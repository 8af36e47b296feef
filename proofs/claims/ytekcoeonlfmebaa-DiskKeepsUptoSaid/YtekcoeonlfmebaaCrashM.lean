/- A crash, file by file. No program in sight. -/
import Derived.Test.YtekcoeonlfmebaaState
import Derived.Test.YtekcoeonlfmebaaFromO
namespace Go.Proofs.Ytekcoeonlfmebaa.Kit
open Go Go.RowKit

def cutF (j : Nat) (keep : List Int) (f : Fl) : Fl := { f with data := f.data.take (leftOf f j keep), syn := leftOf f j keep }
theorem crashed_length (keep : List Int) : ∀ (l : List Fl) (i : Nat), (crashed keep i l).length = l.length
  | [], _ => rfl
  | _ :: l, i => by simp [crashed, crashed_length keep l (i + 1)]
theorem crashed_app (keep : List Int) : ∀ (l m : List Fl) (i : Nat), crashed keep i (l ++ m) = crashed keep i l ++ crashed keep (i + l.length) m
  | [], m, i => by simp [crashed]
  | _ :: l, m, i => by
    rw [List.cons_append, crashed, crashed, crashed_app keep l m (i + 1), List.length_cons, List.cons_append, show i + 1 + l.length = i + (l.length + 1) by omega]
theorem leftOf_le {f : Fl} (h : f.syn ≤ f.data.length) (i : Nat) (keep : List Int) : f.syn ≤ leftOf f i keep ∧ leftOf f i keep ≤ f.data.length := by
  unfold leftOf
  split <;> omega
/-- The disk with its first k files crashed. -/
def DS.part (s : DS) (keep : List Int) (k : Nat) : DS := { s with files := crashed keep 0 (s.files.take k) ++ s.files.drop k }
theorem DS.part_zero (s : DS) (keep : List Int) : s.part keep 0 = s := by simp [DS.part, crashed]
theorem DS.part_all (s : DS) (keep : List Int) : s.part keep s.files.length = { s with files := crashed keep 0 s.files } := by simp [DS.part]
theorem DS.part_cut {s : DS} (keep : List Int) {k : Nat} {f : Fl} (hf : s.files[k]? = some f) : (s.part keep k).files = crashed keep 0 (s.files.take k) ++ f :: s.files.drop (k + 1) ∧ (s.part keep (k + 1)).files = crashed keep 0 (s.files.take k) ++ cutF k keep f :: s.files.drop (k + 1) := by
  have hk := (List.getElem?_eq_some_iff.1 hf).1
  have hd : s.files.drop k = f :: s.files.drop (k + 1) := by
    rw [List.drop_eq_getElem_cons hk, (List.getElem?_eq_some_iff.1 hf).2]
  refine ⟨by unfold DS.part; rw [hd], ?_⟩
  unfold DS.part
  simp only
  rw [List.take_add_one, hf, Option.toList_some, crashed_app, List.length_take, Nat.min_eq_left (by omega), Nat.zero_add, List.append_assoc]
  rfl
theorem DS.part_at {s : DS} (keep : List Int) {k : Nat} {f : Fl} (hf : s.files[k]? = some f) : (s.part keep k).files[k]? = some f := by
  have hk := (List.getElem?_eq_some_iff.1 hf).1
  rw [(DS.part_cut keep hf).1, List.getElem?_append_right (by rw [crashed_length, List.length_take]; omega), crashed_length, List.length_take, Nat.min_eq_left (by omega), Nat.sub_self]
  rfl
theorem DS.part_step {s : DS} {keep : List Int} {k : Nat} {f : Fl} (hf : s.files[k]? = some f) (h : (s.part keep k).Ok) : (s.part keep (k + 1)).files = updF f.name (cutF k keep) (s.part keep k).files := by
  obtain ⟨e1, e2⟩ := DS.part_cut keep hf
  have hn := Rise.nodup h.rise
  rw [e2, e1, updF_cut rfl]
  exact nodup_of_map (f := Fl.name) (by rw [← e1]; exact hn) rfl
theorem DS.part_next {s : DS} {keep : List Int} {k : Nat} {f : Fl} (hf : s.files[k]? = some f) (h : (s.part keep k).Ok) : (s.part keep (k + 1)).Ok ∧ (s.part keep (k + 1)).used + f.data.length = (s.part keep k).used + leftOf f k keep := by
  have hfi := find_file h (DS.part_at keep hf)
  have hs := h.syn f (List.mem_of_find?_eq_some hfi)
  have hl := leftOf_le hs k keep
  have hc : (cutF k keep f).data.length = leftOf f k keep := by simp only [cutF, List.length_take]; omega
  have hu := used_upd h hfi (cutF k keep)
  rw [hc, ← DS.part_step hf h] at hu
  have hcap := h.used
  have hle : f.data.length ≤ (s.part keep k).used := by
    obtain ⟨_, l1, l2, hq, _⟩ := DS.find_cut h hfi
    unfold DS.used
    rw [hq, used_app, used_cons]
    omega
  have e : s.part keep (k + 1) = { s.part keep k with files := updF f.name (cutF k keep) (s.part keep k).files } := by
    have := DS.part_step hf h
    unfold DS.part at this ⊢
    simp only at this ⊢
    rw [this]
  refine ⟨?_, hu⟩
  rw [e]
  refine h.upd f.name hfi (cutF k keep) (fun _ => rfl) ?_ ?_
  · rw [hc]
    exact Nat.le_refl _
  · rw [← DS.part_step hf h]
    omega
theorem DS.part_ok {s : DS} (h : s.Ok) (keep : List Int) : ∀ k, k ≤ s.files.length → (s.part keep k).Ok
  | 0, _ => by rw [DS.part_zero]; exact h
  | k + 1, hk => (DS.part_next (List.getElem?_eq_getElem hk) (DS.part_ok h keep k (by omega))).1
theorem DS.crash_ok {s : DS} (h : s.Ok) (keep : List Int) : (s.crash keep).Ok := by
  have := DS.part_ok h keep s.files.length (Nat.le_refl _)
  rw [DS.part_all] at this
  exact ⟨this.cap, this.used, this.few, this.rise, this.good, this.syn, ⟨by simp [DS.crash], by simp [DS.crash]⟩, fun _ => rfl⟩
/-- A slice of numbers that came in. -/
def RdN (w : World) (A : Option Addr) (l : List Int) : Prop := l ≠ [] → ∃ b off, A = some ⟨b, off, none⟩ ∧ ∀ (j : Nat) (v : Int), l[j]? = some v → w.cell? ⟨b, off + j, none⟩ = some (.int .i64 v)
theorem RdN.kp {w w' : World} {S : Nat → Prop} {A : Option Addr} {l : List Int} (h : RdN w A l) (hk : Kp S w w') (hS : ∀ k, Bk A k → ¬ S k) : RdN w' A l := by
  intro hne
  obtain ⟨b, off, rfl, hc⟩ := h hne
  exact ⟨b, off, rfl, fun j v hv => hk.cell_of (hc j v hv) (hS b (Bk.some_.2 rfl))⟩
theorem RdN.new {w w' : World} {A : Option Addr} {l : List Int} (h : RdN w A l) (hk : New w w') : RdN w' A l := h.kp hk fun _ _ => id
/-- A prefix of a slice, nothing behind it. -/
theorem Own.clip {w : World} {c n m : Nat} {A : Option Addr} {l : List UInt8} (h : Own w 5 1 A c n (bcs l)) (hm : m ≤ n) : Own w 5 1 A m m (bcs (l.take m)) := by
  have hl := h.len
  rw [bcs_length, Nat.mul_one] at hl
  refine ⟨by rw [bcs_length, List.length_take]; omega, ?_⟩
  rcases h.2 with ⟨rfl, rfl, rfl⟩ | ⟨g, cur, rfl, hg, h1, h2, h3, h4⟩
  · exact .inl ⟨rfl, by omega, by omega⟩
  · refine .inr ⟨g, cur, rfl, hg, Nat.le_refl _, by omega, by omega, ?_⟩
    have : bcs (l.take m) = (bcs l).take m := by simp [bcs, List.map_take]
    rw [this, ← h4, List.take_take, Nat.mul_one, Nat.mul_one, Nat.min_eq_left hm]
/-- One more file crashed. -/
theorem Crash_step {wr w' : World} {d bm k q U : Nat} {s : DS} {keep : List Int} {x : FE} {l1 l2 : List FE} {v u : Int} (hX : DiskX wr d (s.part keep k) bm (l1 ++ x :: l2)) (hf : s.files[k]? = some x.f) (hq : leftOf x.f k keep = x.f.syn + q) (hU : (s.part keep k).used = U) (hk : Kp (fun j => j = d ∨ j = x.b) wr w')
    (hd : w'.heap[d]? = some (.cells ((dcells (s.part keep k) bm).setIfInBounds 1 (.int .i64 v)) 69 (0, 0))) (hv : v = (U : Int) - ((x.f.data.length : Int) - (x.f.syn : Int) - (q : Int)))
    (hb : w'.heap[x.b]? = some (.cells ((x.cells.setIfInBounds 0 (.slice x.A (x.f.syn + q) (x.f.syn + q))).setIfInBounds 1 (.int .i64 u)) 74 (0, 0))) (hu : u = (x.f.syn : Int) + (q : Int)) :
    ∃ G', DiskAt w' d (s.part keep (k + 1)) G' ∧ Mv (fpD d bm (l1 ++ x :: l2)) G' wr w' := by
  subst hu
  obtain ⟨hok, hus⟩ := DS.part_next hf hX.ok
  have hsy := hX.ok.syn x.f (List.mem_of_find?_eq_some (find_file hX.ok (DS.part_at keep hf)))
  have hle := leftOf_le hsy k keep
  rw [hq] at hle hus
  obtain ⟨m1, m2, m3⟩ := hX.blk_ne
  have hAb : ¬ Bk x.A x.b := fun hb => by
    have := (List.nodup_append.1 (List.nodup_append.1 (fpD_cut d bm l1 l2 x ▸ hX.own)).2.1).1
    exact (List.nodup_cons.1 this).1 (mem_bks.2 hb)
  refine hX.updAt (x' := ⟨cutF k keep x.f, x.b, x.A, x.f.syn + q⟩) hk (fun j h => h.imp id (fun (e : j = x.b) => e ▸ List.mem_cons_self)) ?_ rfl rfl ⟨?_, ?_⟩ (fun j h => .inl h) (cutF k keep) rfl (DS.part_step hf hX.ok) hok
  · have e : (dcells (s.part keep k) bm).setIfInBounds 1 (.int .i64 v) = dcells (s.part keep (k + 1)) bm := by
      have : v = ((s.part keep (k + 1)).used : Int) := by omega
      rw [this]
      rfl
    exact e ▸ hd
  · refine hb.trans ?_
    have hc : (x.f.data.take (x.f.syn + q)).length = x.f.syn + q := by rw [List.length_take]; omega
    simp only [FE.cells, cutF, hq, hc, Int.natCast_add]
    rfl
  · have := (hX.mem_cut.2.kp hk (fun j hj e => e.elim (m1 j (List.mem_cons_of_mem _ (mem_bks.2 hj))).1 (fun e => hAb (e ▸ hj)))).clip hle.2
    simp only [cutF, hq]
    have hc : (x.f.data.take (x.f.syn + q)).length = x.f.syn + q := by rw [List.length_take]; omega
    rw [hc]
    exact this
theorem Crash_end {wr w' : World} {d bm k : Nat} {s : DS} {keep : List Int} {xs : List FE} (h : s.Ok) (hX : DiskX wr d (s.part keep k) bm xs) (hk : k = s.files.length) (hkp : Kp (fun j => j = d) wr w')
    (hb : w'.heap[d]? = some (.cells (((dcells (s.part keep k) bm).setIfInBounds 4 (.bool false)).setIfInBounds 3 (.int .i64 (-1))) 69 (0, 0))) : DiskAt w' d (s.crash keep) (fpD d bm xs) ∧ Mv (fpD d bm xs) (fpD d bm xs) wr w' := by
  have hf : (s.crash keep).files = (s.part keep k).files := by rw [hk, DS.part_all]; rfl
  refine ⟨⟨bm, xs, hX.state hkp (hb.trans ?_) hf (DS.crash_ok h keep), rfl⟩, hkp.mono fun j _ (e : j = d) => e ▸ mem_fpD.2 (.inl rfl), fun _ h => .inl h⟩
  have hu : (s.crash keep).used = (s.part keep k).used := by unfold DS.used; rw [hf]
  unfold dcells
  rw [hu]
  rfl
end Go.Proofs.Ytekcoeonlfmebaa.Kit
