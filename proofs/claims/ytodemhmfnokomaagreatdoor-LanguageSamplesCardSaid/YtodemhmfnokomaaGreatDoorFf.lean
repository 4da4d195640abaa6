/- Facts, put together out of the kernel's runs. Conditions: none. -/
import Derived.Test.YtodemhmfnokomaaGreatDoorFp
import Derived.Test.YtodemhmfnokomaaGreatDoorFk0
import Derived.Test.YtodemhmfnokomaaGreatDoorFka
import Derived.Test.YtodemhmfnokomaaGreatDoorFkb
namespace Go.Proofs.YtodemhmfnokomaaGreatDoor
namespace Ev
open Go

theorem fc337_0_ok : FactOk E0 fc337_0 := fact_of L0_ok bad_L0 fc337_0_run
theorem fc337_1_ok : FactOk E0 fc337_1 := fact_of L0_ok bad_L0 fc337_1_run
theorem fc337_2_ok : FactOk E0 fc337_2 := fact_of L0_ok bad_L0 fc337_2_run
theorem fc337_3_ok : FactOk E0 fc337_3 := fact_of L0_ok bad_L0 fc337_3_run
theorem fc337_4_ok : FactOk E0 fc337_4 := fact_of L0_ok bad_L0 fc337_4_run
theorem fc337_5_ok : FactOk E0 fc337_5 := fact_of L0_ok bad_L0 fc337_5_run
theorem fc337_6_ok : FactOk E0 fc337_6 := fact_of L0_ok bad_L0 fc337_6_run
theorem fc337_7_ok : FactOk E0 fc337_7 := fact_of L0_ok bad_L0 fc337_7_run
theorem fc337_8_ok : FactOk E0 fc337_8 := fact_of L0_ok bad_L0 fc337_8_run
theorem fc337_9_ok : FactOk E0 fc337_9 := fact_of L0_ok bad_L0 fc337_9_run
theorem fc337_10_ok : FactOk E0 fc337_10 := fact_of L0_ok bad_L0 fc337_10_run
theorem fc337_11_ok : FactOk E0 fc337_11 := fact_of L0_ok bad_L0 fc337_11_run
theorem fc337_12_ok : FactOk E0 fc337_12 := fact_of L0_ok bad_L0 fc337_12_run
theorem fc337_13_ok : FactOk E0 fc337_13 := fact_of L0_ok bad_L0 fc337_13_run
theorem fc337_14_ok : FactOk E0 fc337_14 := fact_of L0_ok bad_L0 fc337_14_run
theorem fc337_15_ok : FactOk E0 fc337_15 := fact_of L0_ok bad_L0 fc337_15_run
theorem fc337_16_ok : FactOk E0 fc337_16 := fact_of L0_ok bad_L0 fc337_16_run
theorem fc337_17_ok : FactOk E0 fc337_17 := fact_of L0_ok bad_L0 fc337_17_run
theorem fc337_18_ok : FactOk E0 fc337_18 := fact_of L0_ok bad_L0 fc337_18_run
theorem fc337_19_ok : FactOk E0 fc337_19 := fact_of L0_ok bad_L0 fc337_19_run
theorem fc337_20_ok : FactOk E0 fc337_20 := fact_of L0_ok bad_L0 fc337_20_run
theorem fc337_21_ok : FactOk E0 fc337_21 := fact_of L0_ok bad_L0 fc337_21_run
theorem fc337_22_ok : FactOk E0 fc337_22 := fact_of L0_ok bad_L0 fc337_22_run
theorem fc337_23_ok : FactOk E0 fc337_23 := fact_of L0_ok bad_L0 fc337_23_run
theorem fc337_24_ok : FactOk E0 fc337_24 := fact_of L0_ok bad_L0 fc337_24_run
theorem fc337_25_ok : FactOk E0 fc337_25 := fact_of L0_ok bad_L0 fc337_25_run
theorem fc337_26_ok : FactOk E0 fc337_26 := fact_of L0_ok bad_L0 fc337_26_run
theorem L1_ok (base : Nat) : SummOk E0 base L1 := add_ok L0_ok (by
  intro F hF
  simp only [List.mem_cons, List.not_mem_nil, or_false] at hF
  rcases hF with rfl | rfl | rfl | rfl | rfl | rfl | rfl | rfl | rfl | rfl | rfl | rfl | rfl | rfl | rfl | rfl | rfl | rfl | rfl | rfl | rfl | rfl | rfl | rfl | rfl | rfl | rfl
  · exact ⟨rfl, fc337_0_ok⟩
  · exact ⟨rfl, fc337_1_ok⟩
  · exact ⟨rfl, fc337_2_ok⟩
  · exact ⟨rfl, fc337_3_ok⟩
  · exact ⟨rfl, fc337_4_ok⟩
  · exact ⟨rfl, fc337_5_ok⟩
  · exact ⟨rfl, fc337_6_ok⟩
  · exact ⟨rfl, fc337_7_ok⟩
  · exact ⟨rfl, fc337_8_ok⟩
  · exact ⟨rfl, fc337_9_ok⟩
  · exact ⟨rfl, fc337_10_ok⟩
  · exact ⟨rfl, fc337_11_ok⟩
  · exact ⟨rfl, fc337_12_ok⟩
  · exact ⟨rfl, fc337_13_ok⟩
  · exact ⟨rfl, fc337_14_ok⟩
  · exact ⟨rfl, fc337_15_ok⟩
  · exact ⟨rfl, fc337_16_ok⟩
  · exact ⟨rfl, fc337_17_ok⟩
  · exact ⟨rfl, fc337_18_ok⟩
  · exact ⟨rfl, fc337_19_ok⟩
  · exact ⟨rfl, fc337_20_ok⟩
  · exact ⟨rfl, fc337_21_ok⟩
  · exact ⟨rfl, fc337_22_ok⟩
  · exact ⟨rfl, fc337_23_ok⟩
  · exact ⟨rfl, fc337_24_ok⟩
  · exact ⟨rfl, fc337_25_ok⟩
  · exact ⟨rfl, fc337_26_ok⟩) base
theorem bad_L1 : ∀ f, bad0 f = true → L1 f ≠ none := bad_add bad_L0

theorem fc268_0_ok : FactOk E0 fc268_0 := fact_of L1_ok bad_L1 fc268_0_run
theorem fc268_1_ok : FactOk E0 fc268_1 := fact_of L1_ok bad_L1 fc268_1_run
theorem L2_ok (base : Nat) : SummOk E0 base L2 := add_ok L1_ok (by
  intro F hF
  simp only [List.mem_cons, List.not_mem_nil, or_false] at hF
  rcases hF with rfl | rfl
  · exact ⟨rfl, fc268_0_ok⟩
  · exact ⟨rfl, fc268_1_ok⟩) base
theorem bad_L2 : ∀ f, bad0 f = true → L2 f ≠ none := bad_add bad_L1

theorem fc277_0_ok : FactOk E0 fc277_0 := fact_of L2_ok bad_L2 fc277_0_run
theorem fc277_1_ok : FactOk E0 fc277_1 := fact_of L2_ok bad_L2 fc277_1_run
theorem L3_ok (base : Nat) : SummOk E0 base L3 := add_ok L2_ok (by
  intro F hF
  simp only [List.mem_cons, List.not_mem_nil, or_false] at hF
  rcases hF with rfl | rfl
  · exact ⟨rfl, fc277_0_ok⟩
  · exact ⟨rfl, fc277_1_ok⟩) base
theorem bad_L3 : ∀ f, bad0 f = true → L3 f ≠ none := bad_add bad_L2

theorem fc218_0_ok : FactOk E0 fc218_0 := fact_of L3_ok bad_L3 fc218_0_run
theorem fc218_1_ok : FactOk E0 fc218_1 := fact_of L3_ok bad_L3 fc218_1_run
theorem L4_ok (base : Nat) : SummOk E0 base L4 := add_ok L3_ok (by
  intro F hF
  simp only [List.mem_cons, List.not_mem_nil, or_false] at hF
  rcases hF with rfl | rfl
  · exact ⟨rfl, fc218_0_ok⟩
  · exact ⟨rfl, fc218_1_ok⟩) base
theorem bad_L4 : ∀ f, bad0 f = true → L4 f ≠ none := bad_add bad_L3

theorem fc219_0_ok : FactOk E0 fc219_0 := fact_of L4_ok bad_L4 fc219_0_run
theorem fc219_1_ok : FactOk E0 fc219_1 := fact_of L4_ok bad_L4 fc219_1_run
theorem L5_ok (base : Nat) : SummOk E0 base L5 := add_ok L4_ok (by
  intro F hF
  simp only [List.mem_cons, List.not_mem_nil, or_false] at hF
  rcases hF with rfl | rfl
  · exact ⟨rfl, fc219_0_ok⟩
  · exact ⟨rfl, fc219_1_ok⟩) base
theorem bad_L5 : ∀ f, bad0 f = true → L5 f ≠ none := bad_add bad_L4

theorem fc55_0_ok : FactOk E0 fc55_0 := fact_of L5_ok bad_L5 fc55_0_run
theorem fc55_1_ok : FactOk E0 fc55_1 := fact_of L5_ok bad_L5 fc55_1_run
theorem L6_ok (base : Nat) : SummOk E0 base L6 := add_ok L5_ok (by
  intro F hF
  simp only [List.mem_cons, List.not_mem_nil, or_false] at hF
  rcases hF with rfl | rfl
  · exact ⟨rfl, fc55_0_ok⟩
  · exact ⟨rfl, fc55_1_ok⟩) base
theorem bad_L6 : ∀ f, bad0 f = true → L6 f ≠ none := bad_add bad_L5

theorem fc8_0_ok : FactOk E0 fc8_0 := fact_of L6_ok bad_L6 fc8_0_run

end Ev
end Go.Proofs.YtodemhmfnokomaaGreatDoor
