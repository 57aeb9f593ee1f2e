/- KeepMore, plain: a wider policy keeps what the narrower kept. -/
import Derived.Test.YtcclcgapcnjcdaaKeep
namespace Go.Proofs.Ytcclcgapcnjcdaa
set_option linter.unusedVariables false
set_option linter.unusedSimpArgs false
set_option maxRecDepth 100000

theorem kB_more {last every : Int} {p : List Int} {head r : Int} (i j : Int) (hi : 0 ≤ i) (h : kB last every p head r = true) : kB (last + i) every (p ++ [j]) head r = true := by
  unfold kB at h ⊢
  simp only [Bool.or_eq_true, Bool.and_eq_true, decide_eq_true_eq, List.mem_append] at h ⊢
  rcases h with (h | h) | h
  · exact .inl (.inl (by omega))
  · exact .inl (.inr h)
  · exact .inr (.inl h)
theorem kL_more {last every : Int} {p : List Int} {head : Int} {k : Nat} (i j : Int) (hi : 0 ≤ i) : ∀ x ∈ kL last every p head k, x ∈ kL (last + i) every (p ++ [j]) head k := by
  intro x hx
  unfold kL at hx ⊢
  simp only [List.mem_map, List.mem_filter, List.mem_range] at hx ⊢
  obtain ⟨r, ⟨h1, h2⟩, rfl⟩ := hx
  exact ⟨r, ⟨h1, kB_more i j hi h2⟩, rfl⟩
theorem kchk_more {last every : Int} {p : List Int} {i j : Int} (h : kchk last every p = 0) (h1 : last ≤ 1000) (h2 : p.length ≤ 15) (hi : 0 ≤ i) (hi2 : i ≤ 1000) (hj : 0 ≤ j) (hj2 : j ≤ 1000) : kchk (last + i) every (p ++ [j]) = 0 := by
  unfold kchk at h ⊢
  split at h
  · cases h
  · rename_i ha
    split at h
    · cases h
    · split at h
      · cases h
      · rename_i hb hp
        rw [if_neg (by omega), if_neg (by rw [List.length_append, List.length_singleton]; omega), if_neg]
        rintro ⟨r, hr, hr2⟩
        rw [List.mem_append, List.mem_singleton] at hr
        rcases hr with hr | rfl
        · exact hp ⟨r, hr, hr2⟩
        · omega
end Go.Proofs.Ytcclcgapcnjcdaa
