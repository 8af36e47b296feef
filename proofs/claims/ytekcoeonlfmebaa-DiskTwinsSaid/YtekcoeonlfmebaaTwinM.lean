/- A disk made of another one's State: what From asks holds, and the state is the same. No program in sight. -/
import Derived.Test.YtekcoeonlfmebaaFromM
import Derived.Test.YtekcoeonlfmebaaDiskF
namespace Go.Proofs.Ytekcoeonlfmebaa.Kit
theorem from_state {s : DS} (hs : s.Ok) {zs : List FV} (hz : zs.map FV.f = s.files) : FromOk (s.cap : Int) s.fuse s.down (zs.map FV.fi) ∧ (⟨(s.cap : Int).toNat, (zs.map FV.fi).map FI.fl, s.fuse, s.down⟩ : DS) = s := by
  have e : (zs.map FV.fi).map FI.fl = s.files := by
    rw [List.map_map, ← hz]
    exact List.map_congr_left fun y _ => FV.fi_fl y
  have hl : zs.length = s.files.length := by rw [← hz, List.length_map]
  refine ⟨⟨by omega, by have := hs.cap; omega, by rw [List.length_map, hl]; exact hs.few, hs.fuse.1, hs.fuse.2, hs.fell, ⟨?_, ?_⟩⟩, ?_⟩
  · rw [e]
    exact ⟨hs.cap, hs.used, hs.few, hs.rise, hs.good, hs.syn, ⟨by show (-1 : Int) ≤ -1; omega, by show (-1 : Int) ≤ 1048576; omega⟩, by simp⟩
  · intro y hy
    obtain ⟨z, _, rfl⟩ := List.mem_map.1 hy
    exact Int.natCast_nonneg _
  · rw [e]
    rfl
theorem from_bounds {s : DS} (hs : s.Ok) {zs : List FV} (hz : zs.map FV.f = s.files) : (zs.map FV.fi).length ≤ 9223372036854775807 ∧ (∀ y ∈ zs.map FV.fi, y.name.length ≤ 9223372036854775807 ∧ y.data.length ≤ 9223372036854775807) ∧ (∀ y ∈ zs.map FV.fi, -9223372036854775808 ≤ y.syn ∧ y.syn ≤ 9223372036854775807) := by
  have hl : zs.length = s.files.length := by rw [← hz, List.length_map]
  have hm : ∀ z ∈ zs, z.f ∈ s.files := fun z h => hz ▸ List.mem_map.2 ⟨z, h, rfl⟩
  have hd : ∀ z ∈ zs, z.f.data.length ≤ 1048576 := fun z h => by
    obtain ⟨l1, l2, e⟩ := List.append_of_mem (hm z h)
    have h1 := hs.used
    have h2 := hs.cap
    unfold DS.used at h1
    rw [e, used_app, used_cons] at h1
    omega
  refine ⟨?_, fun y hy => ?_, fun y hy => ?_⟩
  · rw [List.length_map, hl]
    have := hs.few
    omega
  · obtain ⟨z, hz', rfl⟩ := List.mem_map.1 hy
    have h1 := hd z hz'
    have h2 := hs.good _ (hm z hz')
    unfold goodN at h2
    rw [Bool.and_eq_true, decide_eq_true_eq] at h2
    exact ⟨by show z.f.name.length ≤ _; omega, by show z.f.data.length ≤ _; omega⟩
  · obtain ⟨z, hz', rfl⟩ := List.mem_map.1 hy
    have h1 := hd z hz'
    have h2 := hs.syn _ (hm z hz')
    exact ⟨by show _ ≤ (z.f.syn : Int); omega, by show (z.f.syn : Int) ≤ _; omega⟩
end Go.Proofs.Ytekcoeonlfmebaa.Kit
