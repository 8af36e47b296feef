/- A disk of one more file. -/
import Derived.Test.YtekcoeonlfmebaaDiskO
import Derived.Test.YtekcoeonlfmebaaFromM
namespace Go.Proofs.Ytekcoeonlfmebaa.Kit
open Go Go.RowKit

theorem DiskX.no_d {w : World} {d bm : Nat} {s : DS} {xs : List FE} (h : DiskX w d s bm xs) : d ≠ bm ∧ ∀ x ∈ xs, ∀ k ∈ x.blk, k ≠ d ∧ k ≠ bm := by
  obtain ⟨h1, h2⟩ := List.nodup_cons.1 h.own
  obtain ⟨h3, h4⟩ := List.nodup_cons.1 h2
  refine ⟨fun e => h1 (e ▸ List.mem_cons_self), fun x hx k hk => ⟨fun e => h1 ?_, fun e => h3 ?_⟩⟩
  · exact e ▸ List.mem_cons_of_mem _ (List.mem_flatMap.2 ⟨x, hx, hk⟩)
  · exact e ▸ List.mem_flatMap.2 ⟨x, hx, hk⟩
/-- One more file behind the others. -/
theorem DiskX.pushAt {w w' : World} {d bm : Nat} {s s' : DS} {xs : List FE} {x : FE} (h : DiskX w d s bm xs) (hk : Kp (fun k => k = d ∨ k = bm) w w') (hb : w'.heap[d]? = some (.cells (dcells s' bm) 69 (0, 0)))
    (hm : SMap w' bm (xs.map FE.ent ++ [x.ent])) (hx : x.at_ w') (hin : ∀ k ∈ x.blk, w.heap.size ≤ k) (hnd : x.blk.Nodup) (hf : s'.files = s.files ++ [x.f]) (ok : s'.Ok) : DiskAt w' d s' (fpD d bm (xs ++ [x])) := by
  refine ⟨bm, xs ++ [x], ⟨hb, ?_, fun y hy => ?_, h.push_nodup hnd hin, ?_, ok⟩, rfl⟩
  · rw [List.map_append]
    exact hm
  · rcases List.mem_append.1 hy with hy | hy
    · exact (h.file y hy).kp hk fun k hkk e => e.elim (h.no_d.2 y hy k hkk).1 (h.no_d.2 y hy k hkk).2
    · obtain rfl := List.mem_singleton.1 hy
      exact hx
  · rw [List.map_append, hf]
    exact h.perm.append_right _
theorem VPre.fresh {cap : Nat} {l : List FI} {y : FI} (h : VPre cap (l ++ [y])) : (DS.mk cap (l.map FI.fl) (-1) false).find y.name = none := by
  refine List.find?_eq_none.2 fun f hf => ?_
  have hr := h.1.rise
  simp only [List.map_append, List.map_cons, List.map_nil, List.pairwise_append] at hr
  have := hr.2.2 f.name (List.mem_map.2 ⟨f, hf, rfl⟩) y.fl.name (by simp)
  rw [beq_iff_eq]
  exact nm_ne this
/-- A file cloned, boxed, laid into the map, counted. -/
theorem From_push {w w2 w3 w4 w5 : World} {d bm cap U c3 : Nat} {G : List Nat} {xs : List FE} {l : List FI} {y : FI} {A3 : Option Addr} (hX : DiskX w2 d ⟨cap, l.map FI.fl, -1, false⟩ bm xs) (hG : G = fpD d bm xs) (hw : ∀ j ∈ G, w.heap.size + 1 ≤ j) (hn : New w w2) (hok : VPre cap (l ++ [y]))
    (hU : DS.used ⟨cap, l.map FI.fl, -1, false⟩ = U) (ho : Own w3 5 1 A3 c3 y.data.length (bcs y.data)) (h23 : New w2 w3) (hf3 : ∀ k, Bk A3 k → w2.heap.size ≤ k)
    (g4 : w4.heap[w3.heap.size]? = some (.cells #[.slice A3 y.data.length c3, .int .i64 y.syn] 74 (0, 0))) (h34 : New w3 w4) (hm5 : SMap w5 bm (xs.map FE.ent ++ [(y.name, .pointer (some ⟨w3.heap.size, 0, none⟩))])) (h45 : Kp (fun k => k = bm) w4 w5)
    (d5 : w5.heap[d]? = some (.cells (dcells ⟨cap, l.map FI.fl, -1, false⟩ bm) 69 (0, 0))) (v : Int) (hv : v = (U : Int) + (y.data.length : Int)) :
    ∃ G', DiskAt (w5.setCell ⟨d, 1, none⟩ (.int .i64 v)).drew d ⟨cap, (l ++ [y]).map FI.fl, -1, false⟩ G' ∧ (∀ j ∈ G', w.heap.size + 1 ≤ j) ∧ (w.heap.size < w2.heap.size → (w5.setCell ⟨d, 1, none⟩ (.int .i64 v)).drew.heap[w.heap.size]? = w2.heap[w.heap.size]?) ∧ New w (w5.setCell ⟨d, 1, none⟩ (.int .i64 v)).drew := by
  subst hv hG
  have b6 := heap_setCell_row (j := 1) d5 (.int .i64 ((U : Int) + (y.data.length : Int)))
  have k56 : Kp (fun k => k = d) w5 (w5.setCell ⟨d, 1, none⟩ (.int .i64 ((U : Int) + (y.data.length : Int)))).drew := (Kp.setCell (S := fun k => k = d) w5 ⟨d, 1, none⟩ _ rfl).trans (Kp.drew _ _) (fun _ _ h => h) (fun _ _ h => h)
  replace b6 : (w5.setCell ⟨d, 1, none⟩ (.int .i64 ((U : Int) + (y.data.length : Int)))).drew.heap[d]? = _ := b6
  generalize (w5.setCell ⟨d, 1, none⟩ (.int .i64 ((U : Int) + (y.data.length : Int)))).drew = w6 at b6 k56 ⊢
  have hd1 : w.heap.size + 1 ≤ d := hw d (mem_fpD.2 (.inl rfl))
  have hb1 : w.heap.size + 1 ≤ bm := hw bm (mem_fpD.2 (.inr (.inl rfl)))
  have hd2 : d < w2.heap.size := hX.lt d (mem_fpD.2 (.inl rfl))
  have hb2 : bm < w2.heap.size := hX.lt bm (mem_fpD.2 (.inr (.inl rfl)))
  have z1 := h23.size
  have z2 := h34.size
  have z3 := h45.size
  have z0 := hn.size
  have z4 : w3.heap.size < w4.heap.size := (Array.getElem?_eq_some_iff.1 g4).1
  have k26 : Kp (fun k => k = d ∨ k = bm) w2 w6 := ((h23.trans h34 (fun _ _ h => h) (fun _ _ h => h)).trans h45 (fun _ _ h => h.elim) (fun _ _ h => h)).trans k56 (fun _ _ h => .inr h) (fun _ _ h => .inl h)
  have hu6 : DS.used ⟨cap, (l ++ [y]).map FI.fl, -1, false⟩ = U + y.data.length := by
    rw [← hU]
    exact usedI_snoc _ _
  have hy0 : ((y.syn.toNat : Nat) : Int) = y.syn := by
    have := hok.2 y (by simp)
    omega
  refine ⟨_, hX.pushAt (x := ⟨y.fl, w3.heap.size, A3, c3⟩) k26 ?_ ?_ ⟨?_, ?_⟩ ?_ ?_ ?_ hok.1, ?_, fun hlt => k26.block _ hlt (fun e => by omega), hn.trans k26 (fun _ _ h => h) (fun i hi e => by omega)⟩
  · have e : (dcells ⟨cap, l.map FI.fl, -1, false⟩ bm).setIfInBounds 1 (.int .i64 ((U : Int) + (y.data.length : Int))) = dcells ⟨cap, (l ++ [y]).map FI.fl, -1, false⟩ bm := by
      unfold dcells
      rw [hu6, Int.natCast_add]
      rfl
    exact e ▸ b6
  · exact hm5.keep (k56.block bm hm5.lt (fun e => hX.no_d.1 e.symm))
  · refine (k56.block w3.heap.size (by omega) (fun e => by omega)).trans ((h45.block w3.heap.size z4 (fun e => by omega)).trans (g4.trans ?_))
    unfold FE.cells FI.fl
    simp only [hy0]
  · exact ((ho.new h34).kp h45 (fun j hj e => by have := hf3 j hj; omega)).kp k56 (fun j hj e => by have := hf3 j hj; omega)
  · intro k hk
    rcases List.mem_cons.1 hk with rfl | hk
    · exact z1
    · exact hf3 k (mem_bks.1 hk)
  · exact blk_nodup fun hb => by
      have : w3.heap.size < w3.heap.size := ho.lt _ hb
      omega
  · simp only [List.map_append, List.map_cons, List.map_nil]
  · intro j hj
    rcases mem_fpD.1 hj with rfl | rfl | ⟨x, hx, hb⟩
    · exact hd1
    · exact hb1
    · rcases List.mem_append.1 hx with hx | hx
      · exact hw j (mem_fpD.2 (.inr (.inr ⟨x, hx, hb⟩)))
      · obtain rfl := List.mem_singleton.1 hx
        rcases hb with rfl | hb
        · show w.heap.size + 1 ≤ w3.heap.size
          omega
        · have := hf3 j hb
          omega
/-- Its cells changed, and nothing else. -/
theorem DiskX.state {w w' : World} {d bm : Nat} {s s' : DS} {xs : List FE} (h : DiskX w d s bm xs) (hk : Kp (fun k => k = d) w w') (hb : w'.heap[d]? = some (.cells (dcells s' bm) 69 (0, 0))) (hf : s'.files = s.files) (ok : s'.Ok) : DiskX w' d s' bm xs :=
  ⟨hb, h.map.keep (hk.block bm h.map.lt (fun e => h.no_d.1 e.symm)), fun y hy => (h.file y hy).kp hk fun k hkk => (h.no_d.2 y hy k hkk).1, h.own, hf ▸ h.perm, ok⟩
theorem From_end {w w' : World} {d bm cap : Nat} {ys : List FI} {fuse : Int} {down : Bool} {xs : List FE} (h : DiskX w d ⟨cap, ys.map FI.fl, -1, false⟩ bm xs) (h1 : -1 ≤ fuse) (h2 : fuse ≤ 1048576) (h3 : down = true → fuse = -1) (hk : Kp (fun k => k = d) w w')
    (hb : w'.heap[d]? = some (.cells (((dcells ⟨cap, ys.map FI.fl, -1, false⟩ bm).setIfInBounds 3 (.int .i64 fuse)).setIfInBounds 4 (.bool down)) 69 (0, 0))) : DiskAt w' d ⟨cap, ys.map FI.fl, fuse, down⟩ (fpD d bm xs) :=
  ⟨bm, xs, h.state hk hb rfl ⟨h.ok.cap, h.ok.used, h.ok.few, h.ok.rise, h.ok.good, h.ok.syn, ⟨h1, h2⟩, h3⟩, rfl⟩
end Go.Proofs.Ytekcoeonlfmebaa.Kit
