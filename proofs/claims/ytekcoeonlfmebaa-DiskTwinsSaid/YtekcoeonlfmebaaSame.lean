/- The document's Same at two tellings of one state. -/
import Derived.Test.YtekcoeonlfmebaaFromP
namespace Go.Proofs.Ytekcoeonlfmebaa.Kit
open Go Go.RowKit

set_option maxRecDepth 100000 in
set_option maxHeartbeats 4000000 in
theorem Same_calls (w : World) (cap fuse : Int) (down : Bool) (A1 A2 : Option Addr) (n1 n2 c1 c2 : Nat) (ys zs : List FV) (h1 : RdF w A1 ys) (h2 : RdF w A2 zs) (he : ys.map FV.f = zs.map FV.f) (hn1 : n1 = ys.length) (hn2 : n2 = ys.length) (hlen : ys.length ≤ 9223372036854775807) :
    Calls Try.prog 16 #[.agg #[.int .i64 cap, .slice A1 n1 c1, .int .i64 fuse, .bool down], .agg #[.int .i64 cap, .slice A2 n2 c2, .int .i64 fuse, .bool down]] w fun e w' => e = .returned (.bool true) ∧ New w w' := by
  subst hn1 hn2
  have hl2 : zs.length = ys.length := by have := congrArg List.length he; simpa using this.symm
  have HI := Lib.hid (And.intro h1 (And.intro h2 he))
  clear h1 h2 he
  go_enter Try.func16, Try.ntmps16
  go_wp2_with fail
  obtain ⟨W, hW⟩ : ∃ W, (w.alloc (.cells #[.int .i64 cap, .slice A1 ys.length c1, .int .i64 fuse, .bool down] 32)).alloc (.cells #[.int .i64 cap, .slice A2 ys.length c2, .int .i64 fuse, .bool down] 32) = W := ⟨_, rfl⟩
  rw [hW]
  have nW : New w W := hW ▸ (Kp.alloc _ _ _).trans (Kp.alloc _ _ _) (fun _ _ h => h) (fun _ _ h => h)
  have bW1 : W.heap[w.heap.size]? = some (.cells #[.int .i64 cap, .slice A1 ys.length c1, .int .i64 fuse, .bool down] 32 (0, 0)) := hW ▸ heap_kp (heap_alloc_new w _) (Kp.alloc (fun _ => False) _ _) id
  have bW2 : W.heap[w.heap.size + 1]? = some (.cells #[.int .i64 cap, .slice A2 ys.length c2, .int .i64 fuse, .bool down] 32 (0, 0)) := hW ▸ (by
    have := heap_alloc_new (w.alloc (.cells #[.int .i64 cap, .slice A1 ys.length c1, .int .i64 fuse, .bool down] 32)) (.cells #[.int .i64 cap, .slice A2 ys.length c2, .int .i64 fuse, .bool down] 32)
    rwa [World.size_alloc] at this)
  have HW := Lib.hid (And.intro nW (And.intro bW1 bW2))
  clear hW nW bW1 bW2
  go_loopw [5] (fun i wr => ∃ k : Nat, k ≤ ys.length ∧ i = .int .i64 (k : Int) ∧ Hid (New W wr)) (fun i _ => ys.length - (intOf i).toNat)
  case atStart => exact ⟨0, Nat.zero_le _, rfl, Lib.hid (Kp.refl _ _)⟩
  case round =>
    obtain ⟨k, hk, rfl, HK⟩ := hrel
    have nr : New w wr := HW.out.1.trans HK.out (fun _ _ h => h) (fun _ _ h => h)
    have s1 : wr.cell? ⟨w.heap.size, 1, none⟩ = some (.slice A1 ys.length c1) := (cell_of_block (heap_kp HW.out.2.1 HK.out id)).trans rfl
    have s2 : wr.cell? ⟨w.heap.size + 1, 1, none⟩ = some (.slice A2 ys.length c2) := (cell_of_block (heap_kp HW.out.2.2 HK.out id)).trans rfl
    by_cases hlt : k < ys.length
    · obtain ⟨b, off, rfl, e0, e1, e2⟩ := (HI.out.1.new nr).at_ hlt
      obtain ⟨b', off', rfl, d0, d1, d2⟩ := (HI.out.2.1.new nr).at_ (i := k) (by omega)
      have hr1 := (HI.out.1.new nr).2 ys[k] (List.getElem_mem hlt)
      have hr2 := (HI.out.2.1.new nr).2 zs[k] (List.getElem_mem (by omega))
      have hyz : zs[k].f = ys[k].f := by
        have := congrArg (fun l => l[k]?) HI.out.2.2
        simp only [List.getElem?_map, List.getElem?_eq_getElem hlt, List.getElem?_eq_getElem (show k < zs.length by omega), Option.map_some, Option.some.injEq] at this
        exact this.symm
      rw [hyz] at d0 d1 d2 hr2
      clear hyz
      generalize ys[k] = y at e0 e1 e2 d0 d1 d2 hr1 hr2
      generalize zs[k] = z at d1 hr2
      have nx : New wr (wr.alloc (.cells #[.string (bstr y.f.name), .slice y.A y.f.data.length y.c, .int .i64 (y.f.syn : Int)] 65)) := Kp.alloc _ _ _
      have p0 := New.cell nx d0
      have p1 := New.cell nx d1
      have p2 := New.cell nx d2
      have s3 := New.cell nx s2
      have ny : New wr ((wr.alloc (.cells #[.string (bstr y.f.name), .slice y.A y.f.data.length y.c, .int .i64 (y.f.syn : Int)] 65)).alloc (.cells #[.string (bstr y.f.name), .slice z.A y.f.data.length z.c, .int .i64 (y.f.syn : Int)] 65)) := nx.trans (Kp.alloc _ _ _) (fun _ _ h => h) (fun _ _ h => h)
      have q1 : ((wr.alloc (.cells #[.string (bstr y.f.name), .slice y.A y.f.data.length y.c, .int .i64 (y.f.syn : Int)] 65)).alloc (.cells #[.string (bstr y.f.name), .slice z.A y.f.data.length z.c, .int .i64 (y.f.syn : Int)] 65)).heap[wr.heap.size]? = some (.cells #[.string (bstr y.f.name), .slice y.A y.f.data.length y.c, .int .i64 (y.f.syn : Int)] 65 (0, 0)) := heap_kp (heap_alloc_new wr _) (Kp.alloc (fun _ => False) _ _) id
      have q2 : ((wr.alloc (.cells #[.string (bstr y.f.name), .slice y.A y.f.data.length y.c, .int .i64 (y.f.syn : Int)] 65)).alloc (.cells #[.string (bstr y.f.name), .slice z.A y.f.data.length z.c, .int .i64 (y.f.syn : Int)] 65)).heap[wr.heap.size + 1]? = some (.cells #[.string (bstr y.f.name), .slice z.A y.f.data.length z.c, .int .i64 (y.f.syn : Int)] 65 (0, 0)) := by
        have := heap_alloc_new (wr.alloc (.cells #[.string (bstr y.f.name), .slice y.A y.f.data.length y.c, .int .i64 (y.f.syn : Int)] 65)) (.cells #[.string (bstr y.f.name), .slice z.A y.f.data.length z.c, .int .i64 (y.f.syn : Int)] 65)
        rwa [World.size_alloc] at this
      have v10 : ((wr.alloc (.cells #[.string (bstr y.f.name), .slice y.A y.f.data.length y.c, .int .i64 (y.f.syn : Int)] 65)).alloc (.cells #[.string (bstr y.f.name), .slice z.A y.f.data.length z.c, .int .i64 (y.f.syn : Int)] 65)).cell? ⟨wr.heap.size, 0, none⟩ = some (.string (bstr y.f.name)) := (cell_of_block q1).trans rfl
      have v11 : ((wr.alloc (.cells #[.string (bstr y.f.name), .slice y.A y.f.data.length y.c, .int .i64 (y.f.syn : Int)] 65)).alloc (.cells #[.string (bstr y.f.name), .slice z.A y.f.data.length z.c, .int .i64 (y.f.syn : Int)] 65)).cell? ⟨wr.heap.size, 1, none⟩ = some (.slice y.A y.f.data.length y.c) := (cell_of_block q1).trans rfl
      have v12 : ((wr.alloc (.cells #[.string (bstr y.f.name), .slice y.A y.f.data.length y.c, .int .i64 (y.f.syn : Int)] 65)).alloc (.cells #[.string (bstr y.f.name), .slice z.A y.f.data.length z.c, .int .i64 (y.f.syn : Int)] 65)).cell? ⟨wr.heap.size, 2, none⟩ = some (.int .i64 (y.f.syn : Int)) := (cell_of_block q1).trans rfl
      have v20 : ((wr.alloc (.cells #[.string (bstr y.f.name), .slice y.A y.f.data.length y.c, .int .i64 (y.f.syn : Int)] 65)).alloc (.cells #[.string (bstr y.f.name), .slice z.A y.f.data.length z.c, .int .i64 (y.f.syn : Int)] 65)).cell? ⟨wr.heap.size + 1, 0, none⟩ = some (.string (bstr y.f.name)) := (cell_of_block q2).trans rfl
      have v21 : ((wr.alloc (.cells #[.string (bstr y.f.name), .slice y.A y.f.data.length y.c, .int .i64 (y.f.syn : Int)] 65)).alloc (.cells #[.string (bstr y.f.name), .slice z.A y.f.data.length z.c, .int .i64 (y.f.syn : Int)] 65)).cell? ⟨wr.heap.size + 1, 1, none⟩ = some (.slice z.A y.f.data.length z.c) := (cell_of_block q2).trans rfl
      have v22 : ((wr.alloc (.cells #[.string (bstr y.f.name), .slice y.A y.f.data.length y.c, .int .i64 (y.f.syn : Int)] 65)).alloc (.cells #[.string (bstr y.f.name), .slice z.A y.f.data.length z.c, .int .i64 (y.f.syn : Int)] 65)).cell? ⟨wr.heap.size + 1, 2, none⟩ = some (.int .i64 (y.f.syn : Int)) := (cell_of_block q2).trans rfl
      have hv1 := run_conv_RdB (P := Try.prog) ((wr.alloc (.cells #[.string (bstr y.f.name), .slice y.A y.f.data.length y.c, .int .i64 (y.f.syn : Int)] 65)).alloc (.cells #[.string (bstr y.f.name), .slice z.A y.f.data.length z.c, .int .i64 (y.f.syn : Int)] 65)) (src := 28) (dst := 9) Try.underlying28 Try.underlying5 Try.underlying9 y.c (hr1.new ny)
      have hv2 := run_conv_RdB (P := Try.prog) ((wr.alloc (.cells #[.string (bstr y.f.name), .slice y.A y.f.data.length y.c, .int .i64 (y.f.syn : Int)] 65)).alloc (.cells #[.string (bstr y.f.name), .slice z.A y.f.data.length z.c, .int .i64 (y.f.syn : Int)] 65)) (src := 28) (dst := 9) Try.underlying28 Try.underlying5 Try.underlying9 z.c (hr2.new ny)
      have HY := Lib.hid ny
      have hki : (k : Int) < (ys.length : Int) := by omega
      have hk0 : (0 : Int) ≤ k := by omega
      clear nx ny q1 q2 hr1 hr2 nr
      go_wp2_with fail
      exact ⟨⟨k + 1, by omega, by go_num, Lib.hid (HK.out.trans HY.out (fun _ _ h => h) (fun _ _ h => h))⟩, by simp [intOf]; omega⟩
    · obtain rfl : k = ys.length := by omega
      go_wp2_with fail
      go_ret
      exact ⟨rfl, nr⟩
end Go.Proofs.Ytekcoeonlfmebaa.Kit
