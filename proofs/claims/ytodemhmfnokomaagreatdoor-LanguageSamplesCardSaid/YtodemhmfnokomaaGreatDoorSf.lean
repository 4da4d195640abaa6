/- Facts of the samples, put together; LanguageSamples is true everywhere. Conditions: what the row says of the package's variables. -/
import Derived.Test.YtodemhmfnokomaaGreatDoorFp
import Derived.Test.YtodemhmfnokomaaGreatDoorSra
import Derived.Test.YtodemhmfnokomaaGreatDoorSrc
import Derived.Test.YtodemhmfnokomaaGreatDoorSq0
import Derived.Test.YtodemhmfnokomaaGreatDoorSq1
import Derived.Test.YtodemhmfnokomaaGreatDoorSq2
import Derived.Test.YtodemhmfnokomaaGreatDoorSq3
import Derived.Test.YtodemhmfnokomaaGreatDoorSq4
import Derived.Test.YtodemhmfnokomaaGreatDoorSq5
import Derived.Test.YtodemhmfnokomaaGreatDoorSq6
import Derived.Test.YtodemhmfnokomaaGreatDoorSq7
import Derived.Test.YtodemhmfnokomaaGreatDoorSq8
import Derived.Test.YtodemhmfnokomaaGreatDoorSq9
import Derived.Test.YtodemhmfnokomaaGreatDoorSrd
import Derived.Test.YtodemhmfnokomaaGreatDoorSu
import Derived.Test.YtodemhmfnokomaaGreatDoorSrb
import Derived.Test.YtodemhmfnokomaaGreatDoorFf
import Derived.Test.YtodemhmfnokomaaGreatDoorSrg
import Derived.Test.YtodemhmfnokomaaGreatDoorSrh
namespace Go.Proofs.YtodemhmfnokomaaGreatDoor
namespace Ev
open Go

theorem fs0c337_0_ok : FactOk E0 fs0c337_0 := fact_of L0_ok bad_L0 fs0c337_0_run
theorem fs0c337_1_ok : FactOk E0 fs0c337_1 := fact_of L0_ok bad_L0 fs0c337_1_run
theorem fs0c337_2_ok : FactOk E0 fs0c337_2 := fact_of L0_ok bad_L0 fs0c337_2_run
theorem fs0c337_3_ok : FactOk E0 fs0c337_3 := fact_of L0_ok bad_L0 fs0c337_3_run
theorem fs0c337_4_ok : FactOk E0 fs0c337_4 := fact_of L0_ok bad_L0 fs0c337_4_run
theorem fs0c337_5_ok : FactOk E0 fs0c337_5 := fact_of L0_ok bad_L0 fs0c337_5_run
theorem fs0c337_6_ok : FactOk E0 fs0c337_6 := fact_of L0_ok bad_L0 fs0c337_6_run
theorem fs0c337_7_ok : FactOk E0 fs0c337_7 := fact_of L0_ok bad_L0 fs0c337_7_run
theorem fs0c337_8_ok : FactOk E0 fs0c337_8 := fact_of L0_ok bad_L0 fs0c337_8_run
theorem fs0c337_9_ok : FactOk E0 fs0c337_9 := fact_of L0_ok bad_L0 fs0c337_9_run
theorem fs0c337_10_ok : FactOk E0 fs0c337_10 := fact_of L0_ok bad_L0 fs0c337_10_run
theorem fs0c337_11_ok : FactOk E0 fs0c337_11 := fact_of L0_ok bad_L0 fs0c337_11_run
theorem S0_1_ok (base : Nat) : SummOk E0 base S0_1 := add_ok L0_ok (by
  intro F hF
  simp only [List.mem_cons, List.not_mem_nil, or_false] at hF
  rcases hF with rfl | rfl | rfl | rfl | rfl | rfl | rfl | rfl | rfl | rfl | rfl | rfl
  · exact ⟨rfl, fs0c337_0_ok⟩
  · exact ⟨rfl, fs0c337_1_ok⟩
  · exact ⟨rfl, fs0c337_2_ok⟩
  · exact ⟨rfl, fs0c337_3_ok⟩
  · exact ⟨rfl, fs0c337_4_ok⟩
  · exact ⟨rfl, fs0c337_5_ok⟩
  · exact ⟨rfl, fs0c337_6_ok⟩
  · exact ⟨rfl, fs0c337_7_ok⟩
  · exact ⟨rfl, fs0c337_8_ok⟩
  · exact ⟨rfl, fs0c337_9_ok⟩
  · exact ⟨rfl, fs0c337_10_ok⟩
  · exact ⟨rfl, fs0c337_11_ok⟩) base
theorem bad_S0_1 : ∀ f, bad0 f = true → S0_1 f ≠ none := bad_add bad_L0
theorem fs0c268_0_ok : FactOk E0 fs0c268_0 := fact_of S0_1_ok bad_S0_1 fs0c268_0_run
theorem S0_2_ok (base : Nat) : SummOk E0 base S0_2 := add_ok S0_1_ok (by
  intro F hF
  simp only [List.mem_cons, List.not_mem_nil, or_false] at hF
  rcases hF with rfl
  · exact ⟨rfl, fs0c268_0_ok⟩) base
theorem bad_S0_2 : ∀ f, bad0 f = true → S0_2 f ≠ none := bad_add bad_S0_1
theorem fs0c277_0_ok : FactOk E0 fs0c277_0 := fact_of S0_2_ok bad_S0_2 fs0c277_0_run
theorem S0_3_ok (base : Nat) : SummOk E0 base S0_3 := add_ok S0_2_ok (by
  intro F hF
  simp only [List.mem_cons, List.not_mem_nil, or_false] at hF
  rcases hF with rfl
  · exact ⟨rfl, fs0c277_0_ok⟩) base
theorem bad_S0_3 : ∀ f, bad0 f = true → S0_3 f ≠ none := bad_add bad_S0_2
theorem fs0c218_0_ok : FactOk E0 fs0c218_0 := fact_of S0_3_ok bad_S0_3 fs0c218_0_run
theorem S0_4_ok (base : Nat) : SummOk E0 base S0_4 := add_ok S0_3_ok (by
  intro F hF
  simp only [List.mem_cons, List.not_mem_nil, or_false] at hF
  rcases hF with rfl
  · exact ⟨rfl, fs0c218_0_ok⟩) base
theorem bad_S0_4 : ∀ f, bad0 f = true → S0_4 f ≠ none := bad_add bad_S0_3
theorem fs0c219_0_ok : FactOk E0 fs0c219_0 := fact_of S0_4_ok bad_S0_4 fs0c219_0_run
theorem S0_5_ok (base : Nat) : SummOk E0 base S0_5 := add_ok S0_4_ok (by
  intro F hF
  simp only [List.mem_cons, List.not_mem_nil, or_false] at hF
  rcases hF with rfl
  · exact ⟨rfl, fs0c219_0_ok⟩) base
theorem bad_S0_5 : ∀ f, bad0 f = true → S0_5 f ≠ none := bad_add bad_S0_4
theorem fs0c55_0_ok : FactOk E0 fs0c55_0 := fact_of S0_5_ok bad_S0_5 fs0c55_0_run
theorem S0_6_ok (base : Nat) : SummOk E0 base S0_6 := add_ok S0_5_ok (by
  intro F hF
  simp only [List.mem_cons, List.not_mem_nil, or_false] at hF
  rcases hF with rfl
  · exact ⟨rfl, fs0c55_0_ok⟩) base
theorem bad_S0_6 : ∀ f, bad0 f = true → S0_6 f ≠ none := bad_add bad_S0_5
theorem fs0c9_0_ok : FactOk E0 fs0c9_0 := fact_of S0_6_ok bad_S0_6 fs0c9_0_run
theorem S0_7_ok (base : Nat) : SummOk E0 base S0_7 := add_ok S0_6_ok (by
  intro F hF
  simp only [List.mem_cons, List.not_mem_nil, or_false] at hF
  rcases hF with rfl
  · exact ⟨rfl, fs0c9_0_ok⟩) base
theorem bad_S0_7 : ∀ f, bad0 f = true → S0_7 f ≠ none := bad_add bad_S0_6

end Ev
end Go.Proofs.YtodemhmfnokomaaGreatDoor
namespace Go.Proofs.YtodemhmfnokomaaGreatDoor
namespace Ev
open Go

theorem fs1c337_0_ok : FactOk E0 fs1c337_0 := fact_of L0_ok bad_L0 fs1c337_0_run
theorem fs1c337_1_ok : FactOk E0 fs1c337_1 := fact_of L0_ok bad_L0 fs1c337_1_run
theorem fs1c337_2_ok : FactOk E0 fs1c337_2 := fact_of L0_ok bad_L0 fs1c337_2_run
theorem fs1c337_3_ok : FactOk E0 fs1c337_3 := fact_of L0_ok bad_L0 fs1c337_3_run
theorem fs1c337_4_ok : FactOk E0 fs1c337_4 := fact_of L0_ok bad_L0 fs1c337_4_run
theorem fs1c337_5_ok : FactOk E0 fs1c337_5 := fact_of L0_ok bad_L0 fs1c337_5_run
theorem fs1c337_6_ok : FactOk E0 fs1c337_6 := fact_of L0_ok bad_L0 fs1c337_6_run
theorem fs1c337_7_ok : FactOk E0 fs1c337_7 := fact_of L0_ok bad_L0 fs1c337_7_run
theorem fs1c337_8_ok : FactOk E0 fs1c337_8 := fact_of L0_ok bad_L0 fs1c337_8_run
theorem fs1c337_9_ok : FactOk E0 fs1c337_9 := fact_of L0_ok bad_L0 fs1c337_9_run
theorem fs1c337_10_ok : FactOk E0 fs1c337_10 := fact_of L0_ok bad_L0 fs1c337_10_run
theorem fs1c337_11_ok : FactOk E0 fs1c337_11 := fact_of L0_ok bad_L0 fs1c337_11_run
theorem fs1c337_12_ok : FactOk E0 fs1c337_12 := fact_of L0_ok bad_L0 fs1c337_12_run
theorem fs1c337_13_ok : FactOk E0 fs1c337_13 := fact_of L0_ok bad_L0 fs1c337_13_run
theorem fs1c337_14_ok : FactOk E0 fs1c337_14 := fact_of L0_ok bad_L0 fs1c337_14_run
theorem fs1c337_15_ok : FactOk E0 fs1c337_15 := fact_of L0_ok bad_L0 fs1c337_15_run
theorem fs1c337_16_ok : FactOk E0 fs1c337_16 := fact_of L0_ok bad_L0 fs1c337_16_run
theorem fs1c337_17_ok : FactOk E0 fs1c337_17 := fact_of L0_ok bad_L0 fs1c337_17_run
theorem fs1c337_18_ok : FactOk E0 fs1c337_18 := fact_of L0_ok bad_L0 fs1c337_18_run
theorem fs1c337_19_ok : FactOk E0 fs1c337_19 := fact_of L0_ok bad_L0 fs1c337_19_run
theorem fs1c337_20_ok : FactOk E0 fs1c337_20 := fact_of L0_ok bad_L0 fs1c337_20_run
theorem S1_1_ok (base : Nat) : SummOk E0 base S1_1 := add_ok L0_ok (by
  intro F hF
  simp only [List.mem_cons, List.not_mem_nil, or_false] at hF
  rcases hF with rfl | rfl | rfl | rfl | rfl | rfl | rfl | rfl | rfl | rfl | rfl | rfl | rfl | rfl | rfl | rfl | rfl | rfl | rfl | rfl | rfl
  · exact ⟨rfl, fs1c337_0_ok⟩
  · exact ⟨rfl, fs1c337_1_ok⟩
  · exact ⟨rfl, fs1c337_2_ok⟩
  · exact ⟨rfl, fs1c337_3_ok⟩
  · exact ⟨rfl, fs1c337_4_ok⟩
  · exact ⟨rfl, fs1c337_5_ok⟩
  · exact ⟨rfl, fs1c337_6_ok⟩
  · exact ⟨rfl, fs1c337_7_ok⟩
  · exact ⟨rfl, fs1c337_8_ok⟩
  · exact ⟨rfl, fs1c337_9_ok⟩
  · exact ⟨rfl, fs1c337_10_ok⟩
  · exact ⟨rfl, fs1c337_11_ok⟩
  · exact ⟨rfl, fs1c337_12_ok⟩
  · exact ⟨rfl, fs1c337_13_ok⟩
  · exact ⟨rfl, fs1c337_14_ok⟩
  · exact ⟨rfl, fs1c337_15_ok⟩
  · exact ⟨rfl, fs1c337_16_ok⟩
  · exact ⟨rfl, fs1c337_17_ok⟩
  · exact ⟨rfl, fs1c337_18_ok⟩
  · exact ⟨rfl, fs1c337_19_ok⟩
  · exact ⟨rfl, fs1c337_20_ok⟩) base
theorem bad_S1_1 : ∀ f, bad0 f = true → S1_1 f ≠ none := bad_add bad_L0
theorem fs1c268_0_ok : FactOk E0 fs1c268_0 := fact_of S1_1_ok bad_S1_1 fs1c268_0_run
theorem S1_2_ok (base : Nat) : SummOk E0 base S1_2 := add_ok S1_1_ok (by
  intro F hF
  simp only [List.mem_cons, List.not_mem_nil, or_false] at hF
  rcases hF with rfl
  · exact ⟨rfl, fs1c268_0_ok⟩) base
theorem bad_S1_2 : ∀ f, bad0 f = true → S1_2 f ≠ none := bad_add bad_S1_1
theorem fs1c277_0_ok : FactOk E0 fs1c277_0 := fact_of S1_2_ok bad_S1_2 fs1c277_0_run
theorem S1_3_ok (base : Nat) : SummOk E0 base S1_3 := add_ok S1_2_ok (by
  intro F hF
  simp only [List.mem_cons, List.not_mem_nil, or_false] at hF
  rcases hF with rfl
  · exact ⟨rfl, fs1c277_0_ok⟩) base
theorem bad_S1_3 : ∀ f, bad0 f = true → S1_3 f ≠ none := bad_add bad_S1_2
theorem fs1c218_0_ok : FactOk E0 fs1c218_0 := fact_of S1_3_ok bad_S1_3 fs1c218_0_run
theorem S1_4_ok (base : Nat) : SummOk E0 base S1_4 := add_ok S1_3_ok (by
  intro F hF
  simp only [List.mem_cons, List.not_mem_nil, or_false] at hF
  rcases hF with rfl
  · exact ⟨rfl, fs1c218_0_ok⟩) base
theorem bad_S1_4 : ∀ f, bad0 f = true → S1_4 f ≠ none := bad_add bad_S1_3
theorem fs1c219_0_ok : FactOk E0 fs1c219_0 := fact_of S1_4_ok bad_S1_4 fs1c219_0_run
theorem S1_5_ok (base : Nat) : SummOk E0 base S1_5 := add_ok S1_4_ok (by
  intro F hF
  simp only [List.mem_cons, List.not_mem_nil, or_false] at hF
  rcases hF with rfl
  · exact ⟨rfl, fs1c219_0_ok⟩) base
theorem bad_S1_5 : ∀ f, bad0 f = true → S1_5 f ≠ none := bad_add bad_S1_4
theorem fs1c55_0_ok : FactOk E0 fs1c55_0 := fact_of S1_5_ok bad_S1_5 fs1c55_0_run
theorem S1_6_ok (base : Nat) : SummOk E0 base S1_6 := add_ok S1_5_ok (by
  intro F hF
  simp only [List.mem_cons, List.not_mem_nil, or_false] at hF
  rcases hF with rfl
  · exact ⟨rfl, fs1c55_0_ok⟩) base
theorem bad_S1_6 : ∀ f, bad0 f = true → S1_6 f ≠ none := bad_add bad_S1_5
theorem fs1c9_0_ok : FactOk E0 fs1c9_0 := fact_of S1_6_ok bad_S1_6 fs1c9_0_run
theorem S1_7_ok (base : Nat) : SummOk E0 base S1_7 := add_ok S1_6_ok (by
  intro F hF
  simp only [List.mem_cons, List.not_mem_nil, or_false] at hF
  rcases hF with rfl
  · exact ⟨rfl, fs1c9_0_ok⟩) base
theorem bad_S1_7 : ∀ f, bad0 f = true → S1_7 f ≠ none := bad_add bad_S1_6

end Ev
end Go.Proofs.YtodemhmfnokomaaGreatDoor
namespace Go.Proofs.YtodemhmfnokomaaGreatDoor
namespace Ev
open Go

theorem q2c337_0_ok : FactOk E0 q2c337_0 := fact_of (S := q2c337_0S) L0_ok bad_L0 q2c337_0_run
theorem q2c337_1_ok : FactOk E0 q2c337_1 := fact_of (S := q2c337_1S) L0_ok bad_L0 q2c337_1_run
theorem q2c337_2_ok : FactOk E0 q2c337_2 := fact_of (S := q2c337_2S) L0_ok bad_L0 q2c337_2_run
theorem q2c337_3_ok : FactOk E0 q2c337_3 := fact_of (S := q2c337_3S) L0_ok bad_L0 q2c337_3_run
theorem q2c337_4_ok : FactOk E0 q2c337_4 := fact_of (S := q2c337_4S) L0_ok bad_L0 q2c337_4_run
theorem q2c337_5_ok : FactOk E0 q2c337_5 := fact_of (S := q2c337_5S) L0_ok bad_L0 q2c337_5_run
theorem q2c337_6_ok : FactOk E0 q2c337_6 := fact_of (S := q2c337_6S) L0_ok bad_L0 q2c337_6_run
theorem q2c337_7_ok : FactOk E0 q2c337_7 := fact_of (S := q2c337_7S) L0_ok bad_L0 q2c337_7_run
theorem q2c337_8_ok : FactOk E0 q2c337_8 := fact_of (S := q2c337_8S) L0_ok bad_L0 q2c337_8_run
theorem q2c337_9_ok : FactOk E0 q2c337_9 := fact_of (S := q2c337_9S) L0_ok bad_L0 q2c337_9_run
theorem q2c337_10_ok : FactOk E0 q2c337_10 := fact_of (S := q2c337_10S) L0_ok bad_L0 q2c337_10_run
theorem q2c337_11_ok : FactOk E0 q2c337_11 := fact_of (S := q2c337_11S) L0_ok bad_L0 q2c337_11_run
theorem q2c337_12_ok : FactOk E0 q2c337_12 := fact_of (S := q2c337_12S) L0_ok bad_L0 q2c337_12_run
theorem q2c337_13_ok : FactOk E0 q2c337_13 := fact_of (S := q2c337_13S) L0_ok bad_L0 q2c337_13_run
theorem q2c337_14_ok : FactOk E0 q2c337_14 := fact_of (S := q2c337_14S) L0_ok bad_L0 q2c337_14_run
theorem q2c337_15_ok : FactOk E0 q2c337_15 := fact_of (S := q2c337_15S) L0_ok bad_L0 q2c337_15_run
theorem q2c337_16_ok : FactOk E0 q2c337_16 := fact_of (S := q2c337_16S) L0_ok bad_L0 q2c337_16_run
theorem q2c337_17_ok : FactOk E0 q2c337_17 := fact_of (S := q2c337_17S) L0_ok bad_L0 q2c337_17_run
theorem q2c337_18_ok : FactOk E0 q2c337_18 := fact_of (S := q2c337_18S) L0_ok bad_L0 q2c337_18_run
theorem q2c337_19_ok : FactOk E0 q2c337_19 := fact_of (S := q2c337_19S) L0_ok bad_L0 q2c337_19_run
theorem q2c337_20_ok : FactOk E0 q2c337_20 := fact_of (S := q2c337_20S) L0_ok bad_L0 q2c337_20_run
theorem q2c337_21_ok : FactOk E0 q2c337_21 := fact_of (S := q2c337_21S) L0_ok bad_L0 q2c337_21_run
theorem q2c337_22_ok : FactOk E0 q2c337_22 := fact_of (S := q2c337_22S) L0_ok bad_L0 q2c337_22_run
theorem q2c337_23_ok : FactOk E0 q2c337_23 := fact_of (S := q2c337_23S) L0_ok bad_L0 q2c337_23_run
theorem q2c337_24_ok : FactOk E0 q2c337_24 := fact_of (S := q2c337_24S) L0_ok bad_L0 q2c337_24_run
theorem q2c337_25_ok : FactOk E0 q2c337_25 := fact_of (S := q2c337_25S) L0_ok bad_L0 q2c337_25_run
theorem q2c337_26_ok : FactOk E0 q2c337_26 := fact_of (S := q2c337_26S) L0_ok bad_L0 q2c337_26_run
theorem q2c337_27_ok : FactOk E0 q2c337_27 := fact_of (S := q2c337_27S) L0_ok bad_L0 q2c337_27_run
theorem q2c337_28_ok : FactOk E0 q2c337_28 := fact_of (S := q2c337_28S) L0_ok bad_L0 q2c337_28_run
theorem q2c337_29_ok : FactOk E0 q2c337_29 := fact_of (S := q2c337_29S) L0_ok bad_L0 q2c337_29_run
theorem q2c337_30_ok : FactOk E0 q2c337_30 := fact_of (S := q2c337_30S) L0_ok bad_L0 q2c337_30_run
theorem q2c337_31_ok : FactOk E0 q2c337_31 := fact_of (S := q2c337_31S) L0_ok bad_L0 q2c337_31_run
theorem q2c337_32_ok : FactOk E0 q2c337_32 := fact_of (S := q2c337_32S) L0_ok bad_L0 q2c337_32_run
theorem q2c337_33_ok : FactOk E0 q2c337_33 := fact_of (S := q2c337_33S) L0_ok bad_L0 q2c337_33_run
theorem q2c337_34_ok : FactOk E0 q2c337_34 := fact_of (S := q2c337_34S) L0_ok bad_L0 q2c337_34_run
theorem q2c337_35_ok : FactOk E0 q2c337_35 := fact_of (S := q2c337_35S) L0_ok bad_L0 q2c337_35_run
theorem q2c337_36_ok : FactOk E0 q2c337_36 := fact_of (S := q2c337_36S) L0_ok bad_L0 q2c337_36_run
theorem q2c337_37_ok : FactOk E0 q2c337_37 := fact_of (S := q2c337_37S) L0_ok bad_L0 q2c337_37_run
theorem q2c337_38_ok : FactOk E0 q2c337_38 := fact_of (S := q2c337_38S) L0_ok bad_L0 q2c337_38_run
theorem q2c337_39_ok : FactOk E0 q2c337_39 := fact_of (S := q2c337_39S) L0_ok bad_L0 q2c337_39_run
theorem q2c337_40_ok : FactOk E0 q2c337_40 := fact_of (S := q2c337_40S) L0_ok bad_L0 q2c337_40_run
theorem q2c337_41_ok : FactOk E0 q2c337_41 := fact_of (S := q2c337_41S) L0_ok bad_L0 q2c337_41_run
theorem q2c337_42_ok : FactOk E0 q2c337_42 := fact_of (S := q2c337_42S) L0_ok bad_L0 q2c337_42_run
theorem q2c337_43_ok : FactOk E0 q2c337_43 := fact_of (S := q2c337_43S) L0_ok bad_L0 q2c337_43_run
theorem q2c337_44_ok : FactOk E0 q2c337_44 := fact_of (S := q2c337_44S) L0_ok bad_L0 q2c337_44_run
theorem q2c337_45_ok : FactOk E0 q2c337_45 := fact_of (S := q2c337_45S) L0_ok bad_L0 q2c337_45_run
theorem q2c337_46_ok : FactOk E0 q2c337_46 := fact_of (S := q2c337_46S) L0_ok bad_L0 q2c337_46_run
theorem q2c337_47_ok : FactOk E0 q2c337_47 := fact_of (S := q2c337_47S) L0_ok bad_L0 q2c337_47_run
theorem q2c337_48_ok : FactOk E0 q2c337_48 := fact_of (S := q2c337_48S) L0_ok bad_L0 q2c337_48_run
theorem q2c337_49_ok : FactOk E0 q2c337_49 := fact_of (S := q2c337_49S) L0_ok bad_L0 q2c337_49_run
theorem q2c337_50_ok : FactOk E0 q2c337_50 := fact_of (S := q2c337_50S) L0_ok bad_L0 q2c337_50_run
theorem q2c337_51_ok : FactOk E0 q2c337_51 := fact_of (S := q2c337_51S) L0_ok bad_L0 q2c337_51_run
theorem q2c337_52_ok : FactOk E0 q2c337_52 := fact_of (S := q2c337_52S) L0_ok bad_L0 q2c337_52_run
theorem q2c337_53_ok : FactOk E0 q2c337_53 := fact_of (S := q2c337_53S) L0_ok bad_L0 q2c337_53_run
theorem q2c337_54_ok : FactOk E0 q2c337_54 := fact_of (S := q2c337_54S) L0_ok bad_L0 q2c337_54_run
theorem q2c337_55_ok : FactOk E0 q2c337_55 := fact_of (S := q2c337_55S) L0_ok bad_L0 q2c337_55_run
theorem q2c337_56_ok : FactOk E0 q2c337_56 := fact_of (S := q2c337_56S) L0_ok bad_L0 q2c337_56_run
theorem q2c337_57_ok : FactOk E0 q2c337_57 := fact_of (S := q2c337_57S) L0_ok bad_L0 q2c337_57_run
theorem q2c337_58_ok : FactOk E0 q2c337_58 := fact_of (S := q2c337_58S) L0_ok bad_L0 q2c337_58_run
theorem q2c337_59_ok : FactOk E0 q2c337_59 := fact_of (S := q2c337_59S) L0_ok bad_L0 q2c337_59_run
theorem q2c337_60_ok : FactOk E0 q2c337_60 := fact_of (S := q2c337_60S) L0_ok bad_L0 q2c337_60_run
theorem q2c337_61_ok : FactOk E0 q2c337_61 := fact_of (S := q2c337_61S) L0_ok bad_L0 q2c337_61_run
theorem q2c337_62_ok : FactOk E0 q2c337_62 := fact_of (S := q2c337_62S) L0_ok bad_L0 q2c337_62_run
theorem q2c337_63_ok : FactOk E0 q2c337_63 := fact_of (S := q2c337_63S) L0_ok bad_L0 q2c337_63_run
theorem q2c337_64_ok : FactOk E0 q2c337_64 := fact_of (S := q2c337_64S) L0_ok bad_L0 q2c337_64_run
theorem q2c337_65_ok : FactOk E0 q2c337_65 := fact_of (S := q2c337_65S) L0_ok bad_L0 q2c337_65_run
theorem q2c337_66_ok : FactOk E0 q2c337_66 := fact_of (S := q2c337_66S) L0_ok bad_L0 q2c337_66_run
theorem q2c337_67_ok : FactOk E0 q2c337_67 := fact_of (S := q2c337_67S) L0_ok bad_L0 q2c337_67_run
theorem q2c337_68_ok : FactOk E0 q2c337_68 := fact_of (S := q2c337_68S) L0_ok bad_L0 q2c337_68_run
theorem q2c337_69_ok : FactOk E0 q2c337_69 := fact_of (S := q2c337_69S) L0_ok bad_L0 q2c337_69_run
theorem q2c337_70_ok : FactOk E0 q2c337_70 := fact_of (S := q2c337_70S) L0_ok bad_L0 q2c337_70_run
theorem q2c337_71_ok : FactOk E0 q2c337_71 := fact_of (S := q2c337_71S) L0_ok bad_L0 q2c337_71_run
theorem q2c337_72_ok : FactOk E0 q2c337_72 := fact_of (S := q2c337_72S) L0_ok bad_L0 q2c337_72_run
theorem q2c337_73_ok : FactOk E0 q2c337_73 := fact_of (S := q2c337_73S) L0_ok bad_L0 q2c337_73_run
theorem q2c337_74_ok : FactOk E0 q2c337_74 := fact_of (S := q2c337_74S) L0_ok bad_L0 q2c337_74_run
theorem q2c337_75_ok : FactOk E0 q2c337_75 := fact_of (S := q2c337_75S) L0_ok bad_L0 q2c337_75_run
theorem q2c337_76_ok : FactOk E0 q2c337_76 := fact_of (S := q2c337_76S) L0_ok bad_L0 q2c337_76_run
theorem q2c337_77_ok : FactOk E0 q2c337_77 := fact_of (S := q2c337_77S) L0_ok bad_L0 q2c337_77_run
theorem q2c337_78_ok : FactOk E0 q2c337_78 := fact_of (S := q2c337_78S) L0_ok bad_L0 q2c337_78_run
theorem q2c337_79_ok : FactOk E0 q2c337_79 := fact_of (S := q2c337_79S) L0_ok bad_L0 q2c337_79_run
theorem q2c337_80_ok : FactOk E0 q2c337_80 := fact_of (S := q2c337_80S) L0_ok bad_L0 q2c337_80_run
theorem q2c337_81_ok : FactOk E0 q2c337_81 := fact_of (S := q2c337_81S) L0_ok bad_L0 q2c337_81_run
theorem q2c337_82_ok : FactOk E0 q2c337_82 := fact_of (S := q2c337_82S) L0_ok bad_L0 q2c337_82_run
theorem q2c337_83_ok : FactOk E0 q2c337_83 := fact_of (S := q2c337_83S) L0_ok bad_L0 q2c337_83_run
theorem q2c337_84_ok : FactOk E0 q2c337_84 := fact_of (S := q2c337_84S) L0_ok bad_L0 q2c337_84_run
theorem q2c337_85_ok : FactOk E0 q2c337_85 := fact_of (S := q2c337_85S) L0_ok bad_L0 q2c337_85_run
theorem q2c337_86_ok : FactOk E0 q2c337_86 := fact_of (S := q2c337_86S) L0_ok bad_L0 q2c337_86_run
theorem q2c337_87_ok : FactOk E0 q2c337_87 := fact_of (S := q2c337_87S) L0_ok bad_L0 q2c337_87_run
theorem q2c337_88_ok : FactOk E0 q2c337_88 := fact_of (S := q2c337_88S) L0_ok bad_L0 q2c337_88_run
theorem q2c337_89_ok : FactOk E0 q2c337_89 := fact_of (S := q2c337_89S) L0_ok bad_L0 q2c337_89_run
theorem q2c337_90_ok : FactOk E0 q2c337_90 := fact_of (S := q2c337_90S) L0_ok bad_L0 q2c337_90_run
theorem q2c337_91_ok : FactOk E0 q2c337_91 := fact_of (S := q2c337_91S) L0_ok bad_L0 q2c337_91_run
theorem q2c337_92_ok : FactOk E0 q2c337_92 := fact_of (S := q2c337_92S) L0_ok bad_L0 q2c337_92_run
theorem q2c268_0_ok : FactOk E0 q2c268_0 := fact_of (S := q2c268_0S) L0_ok bad_L0 q2c268_0_run
theorem q2c268_1_ok : FactOk E0 q2c268_1 := fact_of (S := q2c268_1S) L0_ok bad_L0 q2c268_1_run
theorem q2c268_2_ok : FactOk E0 q2c268_2 := fact_of (S := q2c268_2S) L0_ok bad_L0 q2c268_2_run
theorem q2c268_3_ok : FactOk E0 q2c268_3 := fact_of (S := q2c268_3S) L0_ok bad_L0 q2c268_3_run
theorem q2c270_0_ok : FactOk E0 q2c270_0 := fact_of (S := q2c270_0S) L0_ok bad_L0 q2c270_0_run
theorem q2c270_1_ok : FactOk E0 q2c270_1 := fact_of (S := q2c270_1S) L0_ok bad_L0 q2c270_1_run
theorem q2c270_2_ok : FactOk E0 q2c270_2 := fact_of (S := q2c270_2S) L0_ok bad_L0 q2c270_2_run
theorem q2c270_3_ok : FactOk E0 q2c270_3 := fact_of (S := q2c270_3S) L0_ok bad_L0 q2c270_3_run
theorem q2c270_4_ok : FactOk E0 q2c270_4 := fact_of (S := q2c270_4S) L0_ok bad_L0 q2c270_4_run
theorem q2c270_5_ok : FactOk E0 q2c270_5 := fact_of (S := q2c270_5S) L0_ok bad_L0 q2c270_5_run
theorem q2c270_6_ok : FactOk E0 q2c270_6 := fact_of (S := q2c270_6S) L0_ok bad_L0 q2c270_6_run
theorem q2c270_7_ok : FactOk E0 q2c270_7 := fact_of (S := q2c270_7S) L0_ok bad_L0 q2c270_7_run
theorem q2c270_8_ok : FactOk E0 q2c270_8 := fact_of (S := q2c270_8S) L0_ok bad_L0 q2c270_8_run
theorem q2c270_9_ok : FactOk E0 q2c270_9 := fact_of (S := q2c270_9S) L0_ok bad_L0 q2c270_9_run
theorem q2c270_10_ok : FactOk E0 q2c270_10 := fact_of (S := q2c270_10S) L0_ok bad_L0 q2c270_10_run
theorem q2c270_11_ok : FactOk E0 q2c270_11 := fact_of (S := q2c270_11S) L0_ok bad_L0 q2c270_11_run
theorem q2c270_12_ok : FactOk E0 q2c270_12 := fact_of (S := q2c270_12S) L0_ok bad_L0 q2c270_12_run
theorem q2c270_13_ok : FactOk E0 q2c270_13 := fact_of (S := q2c270_13S) L0_ok bad_L0 q2c270_13_run
theorem q2c270_14_ok : FactOk E0 q2c270_14 := fact_of (S := q2c270_14S) L0_ok bad_L0 q2c270_14_run
theorem q2c270_15_ok : FactOk E0 q2c270_15 := fact_of (S := q2c270_15S) L0_ok bad_L0 q2c270_15_run
theorem q2c270_16_ok : FactOk E0 q2c270_16 := fact_of (S := q2c270_16S) L0_ok bad_L0 q2c270_16_run
theorem q2c270_17_ok : FactOk E0 q2c270_17 := fact_of (S := q2c270_17S) L0_ok bad_L0 q2c270_17_run
theorem q2c270_18_ok : FactOk E0 q2c270_18 := fact_of (S := q2c270_18S) L0_ok bad_L0 q2c270_18_run
theorem q2c270_19_ok : FactOk E0 q2c270_19 := fact_of (S := q2c270_19S) L0_ok bad_L0 q2c270_19_run
theorem q2c270_20_ok : FactOk E0 q2c270_20 := fact_of (S := q2c270_20S) L0_ok bad_L0 q2c270_20_run
theorem q2c270_21_ok : FactOk E0 q2c270_21 := fact_of (S := q2c270_21S) L0_ok bad_L0 q2c270_21_run
theorem q2c270_22_ok : FactOk E0 q2c270_22 := fact_of (S := q2c270_22S) L0_ok bad_L0 q2c270_22_run
theorem q2c270_23_ok : FactOk E0 q2c270_23 := fact_of (S := q2c270_23S) L0_ok bad_L0 q2c270_23_run
theorem q2c270_24_ok : FactOk E0 q2c270_24 := fact_of (S := q2c270_24S) L0_ok bad_L0 q2c270_24_run
theorem q2c270_25_ok : FactOk E0 q2c270_25 := fact_of (S := q2c270_25S) L0_ok bad_L0 q2c270_25_run
theorem q2c270_26_ok : FactOk E0 q2c270_26 := fact_of (S := q2c270_26S) L0_ok bad_L0 q2c270_26_run
theorem q2c270_27_ok : FactOk E0 q2c270_27 := fact_of (S := q2c270_27S) L0_ok bad_L0 q2c270_27_run
theorem q2c270_28_ok : FactOk E0 q2c270_28 := fact_of (S := q2c270_28S) L0_ok bad_L0 q2c270_28_run
theorem q2c270_29_ok : FactOk E0 q2c270_29 := fact_of (S := q2c270_29S) L0_ok bad_L0 q2c270_29_run
theorem q2c270_30_ok : FactOk E0 q2c270_30 := fact_of (S := q2c270_30S) L0_ok bad_L0 q2c270_30_run
theorem q2c270_31_ok : FactOk E0 q2c270_31 := fact_of (S := q2c270_31S) L0_ok bad_L0 q2c270_31_run
theorem q2c270_32_ok : FactOk E0 q2c270_32 := fact_of (S := q2c270_32S) L0_ok bad_L0 q2c270_32_run
theorem q2c270_33_ok : FactOk E0 q2c270_33 := fact_of (S := q2c270_33S) L0_ok bad_L0 q2c270_33_run
theorem q2c270_34_ok : FactOk E0 q2c270_34 := fact_of (S := q2c270_34S) L0_ok bad_L0 q2c270_34_run
theorem q2c277_0_ok : FactOk E0 q2c277_0 := fact_of (S := q2c277_0S) (add_ok L0_ok (memC ⟨rfl, q2c337_46_ok⟩ ( memC ⟨rfl, q2c337_49_ok⟩ ( memC ⟨rfl, q2c337_47_ok⟩ ( memC ⟨rfl, q2c337_52_ok⟩ ( memC ⟨rfl, q2c337_53_ok⟩ ( memC ⟨rfl, q2c337_56_ok⟩ ( memC ⟨rfl, q2c337_54_ok⟩ ( memC ⟨rfl, q2c337_48_ok⟩ ( memC ⟨rfl, q2c337_50_ok⟩ ( memC ⟨rfl, q2c337_55_ok⟩ ( memC ⟨rfl, q2c337_51_ok⟩ (memN0))))))))))))) (bad_add bad_L0) q2c277_0_run
theorem q2c277_1_ok : FactOk E0 q2c277_1 := fact_of (S := q2c277_1S) (add_ok L0_ok (memC ⟨rfl, q2c337_63_ok⟩ ( memC ⟨rfl, q2c337_65_ok⟩ ( memC ⟨rfl, q2c337_64_ok⟩ (memN0))))) (bad_add bad_L0) q2c277_1_run
theorem q2c277_2_ok : FactOk E0 q2c277_2 := fact_of (S := q2c277_2S) (add_ok L0_ok (memC ⟨rfl, q2c337_76_ok⟩ ( memC ⟨rfl, q2c337_79_ok⟩ ( memC ⟨rfl, q2c337_77_ok⟩ ( memC ⟨rfl, q2c337_78_ok⟩ ( memC ⟨rfl, q2c337_80_ok⟩ (memN0))))))) (bad_add bad_L0) q2c277_2_run
theorem q2c277_3_ok : FactOk E0 q2c277_3 := fact_of (S := q2c277_3S) (add_ok L0_ok (memC ⟨rfl, q2c337_89_ok⟩ ( memC ⟨rfl, q2c337_91_ok⟩ ( memC ⟨rfl, q2c337_90_ok⟩ ( memC ⟨rfl, q2c337_92_ok⟩ (memN0)))))) (bad_add bad_L0) q2c277_3_run
theorem q2c223_0_ok : FactOk E0 q2c223_0 := fact_of (S := q2c223_0S) L0_ok bad_L0 q2c223_0_run
theorem q2c223_1_ok : FactOk E0 q2c223_1 := fact_of (S := q2c223_1S) L0_ok bad_L0 q2c223_1_run
theorem q2c223_2_ok : FactOk E0 q2c223_2 := fact_of (S := q2c223_2S) L0_ok bad_L0 q2c223_2_run
theorem q2c218_0_ok : FactOk E0 q2c218_0 := fact_of (S := q2c218_0S) (add_ok (add_ok L0_ok (memC ⟨rfl, q2c270_10_ok⟩ ( memC ⟨rfl, q2c270_2_ok⟩ ( memC ⟨rfl, q2c270_5_ok⟩ ( memC ⟨rfl, q2c270_9_ok⟩ ( memC ⟨rfl, q2c270_15_ok⟩ ( memC ⟨rfl, q2c270_11_ok⟩ ( memC ⟨rfl, q2c270_14_ok⟩ ( memC ⟨rfl, q2c270_12_ok⟩ ( memC ⟨rfl, q2c270_7_ok⟩ ( memC ⟨rfl, q2c270_6_ok⟩ ( memC ⟨rfl, q2c270_13_ok⟩ ( memC ⟨rfl, q2c270_4_ok⟩ ( memC ⟨rfl, q2c270_3_ok⟩ ( memC ⟨rfl, q2c270_16_ok⟩ ( memC ⟨rfl, q2c270_8_ok⟩ ( memC ⟨rfl, q2c270_1_ok⟩ ( memC ⟨rfl, q2c270_0_ok⟩ (memN0))))))))))))))))))) (memC ⟨rfl, q2c268_0_ok⟩ (memN0))) (bad_add (bad_add bad_L0)) q2c218_0_run
theorem q2c218_1_ok : FactOk E0 q2c218_1 := fact_of (S := q2c218_1S) (add_ok (add_ok L0_ok (memC ⟨rfl, q2c270_19_ok⟩ ( memC ⟨rfl, q2c270_20_ok⟩ ( memC ⟨rfl, q2c270_21_ok⟩ ( memC ⟨rfl, q2c270_18_ok⟩ ( memC ⟨rfl, q2c270_17_ok⟩ (memN0))))))) (memC ⟨rfl, q2c268_1_ok⟩ (memN0))) (bad_add (bad_add bad_L0)) q2c218_1_run
theorem q2c218_2_ok : FactOk E0 q2c218_2 := fact_of (S := q2c218_2S) (add_ok (add_ok L0_ok (memC ⟨rfl, q2c270_24_ok⟩ ( memC ⟨rfl, q2c270_27_ok⟩ ( memC ⟨rfl, q2c270_25_ok⟩ ( memC ⟨rfl, q2c270_28_ok⟩ ( memC ⟨rfl, q2c270_26_ok⟩ ( memC ⟨rfl, q2c270_23_ok⟩ ( memC ⟨rfl, q2c270_22_ok⟩ (memN0))))))))) (memC ⟨rfl, q2c268_2_ok⟩ (memN0))) (bad_add (bad_add bad_L0)) q2c218_2_run
theorem q2c218_3_ok : FactOk E0 q2c218_3 := fact_of (S := q2c218_3S) (add_ok (add_ok L0_ok (memC ⟨rfl, q2c270_31_ok⟩ ( memC ⟨rfl, q2c270_32_ok⟩ ( memC ⟨rfl, q2c270_34_ok⟩ ( memC ⟨rfl, q2c270_33_ok⟩ ( memC ⟨rfl, q2c270_30_ok⟩ ( memC ⟨rfl, q2c270_29_ok⟩ (memN0)))))))) (memC ⟨rfl, q2c268_3_ok⟩ (memN0))) (bad_add (bad_add bad_L0)) q2c218_3_run
theorem q2c219_0_ok : FactOk E0 q2c219_0 := fact_of (S := q2c219_0S) (add_ok (add_ok L0_ok (memC ⟨rfl, q2c337_10_ok⟩ ( memC ⟨rfl, q2c337_8_ok⟩ ( memC ⟨rfl, q2c337_3_ok⟩ ( memC ⟨rfl, q2c337_9_ok⟩ ( memC ⟨rfl, q2c337_1_ok⟩ ( memC ⟨rfl, q2c337_38_ok⟩ ( memC ⟨rfl, q2c337_25_ok⟩ ( memC ⟨rfl, q2c337_4_ok⟩ ( memC ⟨rfl, q2c337_32_ok⟩ ( memC ⟨rfl, q2c337_19_ok⟩ ( memC ⟨rfl, q2c337_33_ok⟩ ( memC ⟨rfl, q2c337_20_ok⟩ ( memC ⟨rfl, q2c337_40_ok⟩ ( memC ⟨rfl, q2c337_24_ok⟩ ( memC ⟨rfl, q2c337_34_ok⟩ ( memC ⟨rfl, q2c337_29_ok⟩ ( memC ⟨rfl, q2c337_28_ok⟩ ( memC ⟨rfl, q2c337_13_ok⟩ ( memC ⟨rfl, q2c337_14_ok⟩ ( memC ⟨rfl, q2c337_12_ok⟩ ( memC ⟨rfl, q2c337_7_ok⟩ ( memC ⟨rfl, q2c337_2_ok⟩ ( memC ⟨rfl, q2c337_21_ok⟩ ( memC ⟨rfl, q2c337_6_ok⟩ ( memC ⟨rfl, q2c337_26_ok⟩ ( memC ⟨rfl, q2c337_31_ok⟩ ( memC ⟨rfl, q2c337_39_ok⟩ ( memC ⟨rfl, q2c337_17_ok⟩ ( memC ⟨rfl, q2c337_18_ok⟩ ( memC ⟨rfl, q2c337_11_ok⟩ ( memC ⟨rfl, q2c337_27_ok⟩ ( memC ⟨rfl, q2c337_15_ok⟩ ( memC ⟨rfl, q2c337_43_ok⟩ ( memC ⟨rfl, q2c337_45_ok⟩ ( memC ⟨rfl, q2c337_0_ok⟩ ( memC ⟨rfl, q2c337_22_ok⟩ ( memC ⟨rfl, q2c337_5_ok⟩ ( memC ⟨rfl, q2c337_35_ok⟩ ( memC ⟨rfl, q2c337_42_ok⟩ ( memC ⟨rfl, q2c337_44_ok⟩ ( memC ⟨rfl, q2c337_37_ok⟩ ( memC ⟨rfl, q2c337_36_ok⟩ ( memC ⟨rfl, q2c337_30_ok⟩ ( memC ⟨rfl, q2c337_16_ok⟩ ( memC ⟨rfl, q2c337_41_ok⟩ ( memC ⟨rfl, q2c337_23_ok⟩ (memN0)))))))))))))))))))))))))))))))))))))))))))))))) (memC ⟨rfl, q2c277_0_ok⟩ (memN0))) (bad_add (bad_add bad_L0)) q2c219_0_run
theorem q2c219_1_ok : FactOk E0 q2c219_1 := fact_of (S := q2c219_1S) (add_ok (add_ok L0_ok (memC ⟨rfl, q2c337_61_ok⟩ ( memC ⟨rfl, q2c337_57_ok⟩ ( memC ⟨rfl, q2c337_62_ok⟩ ( memC ⟨rfl, q2c337_58_ok⟩ ( memC ⟨rfl, q2c337_59_ok⟩ ( memC ⟨rfl, q2c337_60_ok⟩ (memN0)))))))) (memC ⟨rfl, q2c277_1_ok⟩ (memN0))) (bad_add (bad_add bad_L0)) q2c219_1_run
theorem q2c219_2_ok : FactOk E0 q2c219_2 := fact_of (S := q2c219_2S) (add_ok (add_ok L0_ok (memC ⟨rfl, q2c337_71_ok⟩ ( memC ⟨rfl, q2c337_66_ok⟩ ( memC ⟨rfl, q2c337_68_ok⟩ ( memC ⟨rfl, q2c337_75_ok⟩ ( memC ⟨rfl, q2c337_74_ok⟩ ( memC ⟨rfl, q2c337_69_ok⟩ ( memC ⟨rfl, q2c337_70_ok⟩ ( memC ⟨rfl, q2c337_72_ok⟩ ( memC ⟨rfl, q2c337_73_ok⟩ ( memC ⟨rfl, q2c337_67_ok⟩ (memN0)))))))))))) (memC ⟨rfl, q2c277_2_ok⟩ (memN0))) (bad_add (bad_add bad_L0)) q2c219_2_run
theorem q2c219_3_ok : FactOk E0 q2c219_3 := fact_of (S := q2c219_3S) (add_ok (add_ok L0_ok (memC ⟨rfl, q2c337_82_ok⟩ ( memC ⟨rfl, q2c337_88_ok⟩ ( memC ⟨rfl, q2c337_81_ok⟩ ( memC ⟨rfl, q2c337_86_ok⟩ ( memC ⟨rfl, q2c337_83_ok⟩ ( memC ⟨rfl, q2c337_87_ok⟩ ( memC ⟨rfl, q2c337_85_ok⟩ ( memC ⟨rfl, q2c337_84_ok⟩ (memN0)))))))))) (memC ⟨rfl, q2c277_3_ok⟩ (memN0))) (bad_add (bad_add bad_L0)) q2c219_3_run
theorem q2c55_0_ok : FactOk E0 q2c55_0 := fact_of (S := q2c55_0S) (add_ok (add_ok (add_ok L0_ok (memC ⟨rfl, q2c219_2_ok⟩ ( memC ⟨rfl, q2c219_1_ok⟩ ( memC ⟨rfl, q2c219_3_ok⟩ ( memC ⟨rfl, q2c219_0_ok⟩ (memN0)))))) (memC ⟨rfl, q2c218_3_ok⟩ ( memC ⟨rfl, q2c218_2_ok⟩ ( memC ⟨rfl, q2c218_1_ok⟩ ( memC ⟨rfl, q2c218_0_ok⟩ (memN0)))))) (memC ⟨rfl, q2c223_1_ok⟩ ( memC ⟨rfl, q2c223_0_ok⟩ ( memC ⟨rfl, q2c223_2_ok⟩ (memN0))))) (bad_add (bad_add (bad_add bad_L0))) q2c55_0_run
theorem q2c9_0_ok : FactOk E0 q2c9_0 := fact_of (S := q2c9_0S) (add_ok L0_ok (memC ⟨rfl, q2c55_0_ok⟩ (memN0))) (bad_add bad_L0) q2c9_0_run

end Ev
end Go.Proofs.YtodemhmfnokomaaGreatDoor
namespace Go.Proofs.YtodemhmfnokomaaGreatDoor
namespace Ev
open Go

theorem S3_1_ok (base : Nat) : SummOk E0 base S3_1 := add_ok L0_ok (by
  intro F hF
  simp only [List.mem_cons, List.not_mem_nil, or_false] at hF
  rcases hF with rfl
  · exact ⟨rfl, fs3c58_0_ok⟩) base
theorem bad_S3_1 : ∀ f, bad0 f = true → S3_1 f ≠ none := bad_add bad_L0
theorem fs3c337_0_ok : FactOk E0 fs3c337_0 := fact_of S3_1_ok bad_S3_1 fs3c337_0_run
theorem fs3c337_1_ok : FactOk E0 fs3c337_1 := fact_of S3_1_ok bad_S3_1 fs3c337_1_run
theorem fs3c337_2_ok : FactOk E0 fs3c337_2 := fact_of S3_1_ok bad_S3_1 fs3c337_2_run
theorem fs3c337_3_ok : FactOk E0 fs3c337_3 := fact_of S3_1_ok bad_S3_1 fs3c337_3_run
theorem fs3c337_4_ok : FactOk E0 fs3c337_4 := fact_of S3_1_ok bad_S3_1 fs3c337_4_run
theorem fs3c337_5_ok : FactOk E0 fs3c337_5 := fact_of S3_1_ok bad_S3_1 fs3c337_5_run
theorem fs3c337_6_ok : FactOk E0 fs3c337_6 := fact_of S3_1_ok bad_S3_1 fs3c337_6_run
theorem fs3c337_7_ok : FactOk E0 fs3c337_7 := fact_of S3_1_ok bad_S3_1 fs3c337_7_run
theorem fs3c337_8_ok : FactOk E0 fs3c337_8 := fact_of S3_1_ok bad_S3_1 fs3c337_8_run
theorem fs3c337_9_ok : FactOk E0 fs3c337_9 := fact_of S3_1_ok bad_S3_1 fs3c337_9_run
theorem fs3c337_10_ok : FactOk E0 fs3c337_10 := fact_of S3_1_ok bad_S3_1 fs3c337_10_run
theorem fs3c337_11_ok : FactOk E0 fs3c337_11 := fact_of S3_1_ok bad_S3_1 fs3c337_11_run
theorem S3_2_ok (base : Nat) : SummOk E0 base S3_2 := add_ok S3_1_ok (by
  intro F hF
  simp only [List.mem_cons, List.not_mem_nil, or_false] at hF
  rcases hF with rfl | rfl | rfl | rfl | rfl | rfl | rfl | rfl | rfl | rfl | rfl | rfl
  · exact ⟨rfl, fs3c337_0_ok⟩
  · exact ⟨rfl, fs3c337_1_ok⟩
  · exact ⟨rfl, fs3c337_2_ok⟩
  · exact ⟨rfl, fs3c337_3_ok⟩
  · exact ⟨rfl, fs3c337_4_ok⟩
  · exact ⟨rfl, fs3c337_5_ok⟩
  · exact ⟨rfl, fs3c337_6_ok⟩
  · exact ⟨rfl, fs3c337_7_ok⟩
  · exact ⟨rfl, fs3c337_8_ok⟩
  · exact ⟨rfl, fs3c337_9_ok⟩
  · exact ⟨rfl, fs3c337_10_ok⟩
  · exact ⟨rfl, fs3c337_11_ok⟩) base
theorem bad_S3_2 : ∀ f, bad0 f = true → S3_2 f ≠ none := bad_add bad_S3_1
theorem fs3c268_0_ok : FactOk E0 fs3c268_0 := fact_of S3_2_ok bad_S3_2 fs3c268_0_run
theorem S3_3_ok (base : Nat) : SummOk E0 base S3_3 := add_ok S3_2_ok (by
  intro F hF
  simp only [List.mem_cons, List.not_mem_nil, or_false] at hF
  rcases hF with rfl
  · exact ⟨rfl, fs3c268_0_ok⟩) base
theorem bad_S3_3 : ∀ f, bad0 f = true → S3_3 f ≠ none := bad_add bad_S3_2
theorem fs3c277_0_ok : FactOk E0 fs3c277_0 := fact_of S3_3_ok bad_S3_3 fs3c277_0_run
theorem S3_4_ok (base : Nat) : SummOk E0 base S3_4 := add_ok S3_3_ok (by
  intro F hF
  simp only [List.mem_cons, List.not_mem_nil, or_false] at hF
  rcases hF with rfl
  · exact ⟨rfl, fs3c277_0_ok⟩) base
theorem bad_S3_4 : ∀ f, bad0 f = true → S3_4 f ≠ none := bad_add bad_S3_3
theorem fs3c218_0_ok : FactOk E0 fs3c218_0 := fact_of S3_4_ok bad_S3_4 fs3c218_0_run
theorem S3_5_ok (base : Nat) : SummOk E0 base S3_5 := add_ok S3_4_ok (by
  intro F hF
  simp only [List.mem_cons, List.not_mem_nil, or_false] at hF
  rcases hF with rfl
  · exact ⟨rfl, fs3c218_0_ok⟩) base
theorem bad_S3_5 : ∀ f, bad0 f = true → S3_5 f ≠ none := bad_add bad_S3_4
theorem fs3c219_0_ok : FactOk E0 fs3c219_0 := fact_of S3_5_ok bad_S3_5 fs3c219_0_run
theorem S3_6_ok (base : Nat) : SummOk E0 base S3_6 := add_ok S3_5_ok (by
  intro F hF
  simp only [List.mem_cons, List.not_mem_nil, or_false] at hF
  rcases hF with rfl
  · exact ⟨rfl, fs3c219_0_ok⟩) base
theorem bad_S3_6 : ∀ f, bad0 f = true → S3_6 f ≠ none := bad_add bad_S3_5
theorem fs3c55_0_ok : FactOk E0 fs3c55_0 := fact_of S3_6_ok bad_S3_6 fs3c55_0_run
theorem S3_7_ok (base : Nat) : SummOk E0 base S3_7 := add_ok S3_6_ok (by
  intro F hF
  simp only [List.mem_cons, List.not_mem_nil, or_false] at hF
  rcases hF with rfl
  · exact ⟨rfl, fs3c55_0_ok⟩) base
theorem bad_S3_7 : ∀ f, bad0 f = true → S3_7 f ≠ none := bad_add bad_S3_6
theorem fs3c9_0_ok : FactOk E0 fs3c9_0 := fact_of S3_7_ok bad_S3_7 fs3c9_0_run
theorem S3_8_ok (base : Nat) : SummOk E0 base S3_8 := add_ok S3_7_ok (by
  intro F hF
  simp only [List.mem_cons, List.not_mem_nil, or_false] at hF
  rcases hF with rfl
  · exact ⟨rfl, fs3c9_0_ok⟩) base
theorem bad_S3_8 : ∀ f, bad0 f = true → S3_8 f ≠ none := bad_add bad_S3_7

end Ev
end Go.Proofs.YtodemhmfnokomaaGreatDoor
namespace Go.Proofs.YtodemhmfnokomaaGreatDoor
namespace Ev
open Go

theorem fs4c337_0_ok : FactOk E0 fs4c337_0 := fact_of L0_ok bad_L0 fs4c337_0_run
theorem fs4c337_1_ok : FactOk E0 fs4c337_1 := fact_of L0_ok bad_L0 fs4c337_1_run
theorem fs4c337_2_ok : FactOk E0 fs4c337_2 := fact_of L0_ok bad_L0 fs4c337_2_run
theorem fs4c337_3_ok : FactOk E0 fs4c337_3 := fact_of L0_ok bad_L0 fs4c337_3_run
theorem fs4c337_4_ok : FactOk E0 fs4c337_4 := fact_of L0_ok bad_L0 fs4c337_4_run
theorem fs4c337_5_ok : FactOk E0 fs4c337_5 := fact_of L0_ok bad_L0 fs4c337_5_run
theorem fs4c337_6_ok : FactOk E0 fs4c337_6 := fact_of L0_ok bad_L0 fs4c337_6_run
theorem fs4c337_7_ok : FactOk E0 fs4c337_7 := fact_of L0_ok bad_L0 fs4c337_7_run
theorem fs4c337_8_ok : FactOk E0 fs4c337_8 := fact_of L0_ok bad_L0 fs4c337_8_run
theorem fs4c337_9_ok : FactOk E0 fs4c337_9 := fact_of L0_ok bad_L0 fs4c337_9_run
theorem fs4c337_10_ok : FactOk E0 fs4c337_10 := fact_of L0_ok bad_L0 fs4c337_10_run
theorem fs4c337_11_ok : FactOk E0 fs4c337_11 := fact_of L0_ok bad_L0 fs4c337_11_run
theorem fs4c337_12_ok : FactOk E0 fs4c337_12 := fact_of L0_ok bad_L0 fs4c337_12_run
theorem fs4c337_13_ok : FactOk E0 fs4c337_13 := fact_of L0_ok bad_L0 fs4c337_13_run
theorem fs4c337_14_ok : FactOk E0 fs4c337_14 := fact_of L0_ok bad_L0 fs4c337_14_run
theorem fs4c337_15_ok : FactOk E0 fs4c337_15 := fact_of L0_ok bad_L0 fs4c337_15_run
theorem fs4c337_16_ok : FactOk E0 fs4c337_16 := fact_of L0_ok bad_L0 fs4c337_16_run
theorem fs4c337_17_ok : FactOk E0 fs4c337_17 := fact_of L0_ok bad_L0 fs4c337_17_run
theorem S4_1_ok (base : Nat) : SummOk E0 base S4_1 := add_ok L0_ok (by
  intro F hF
  simp only [List.mem_cons, List.not_mem_nil, or_false] at hF
  rcases hF with rfl | rfl | rfl | rfl | rfl | rfl | rfl | rfl | rfl | rfl | rfl | rfl | rfl | rfl | rfl | rfl | rfl | rfl
  · exact ⟨rfl, fs4c337_0_ok⟩
  · exact ⟨rfl, fs4c337_1_ok⟩
  · exact ⟨rfl, fs4c337_2_ok⟩
  · exact ⟨rfl, fs4c337_3_ok⟩
  · exact ⟨rfl, fs4c337_4_ok⟩
  · exact ⟨rfl, fs4c337_5_ok⟩
  · exact ⟨rfl, fs4c337_6_ok⟩
  · exact ⟨rfl, fs4c337_7_ok⟩
  · exact ⟨rfl, fs4c337_8_ok⟩
  · exact ⟨rfl, fs4c337_9_ok⟩
  · exact ⟨rfl, fs4c337_10_ok⟩
  · exact ⟨rfl, fs4c337_11_ok⟩
  · exact ⟨rfl, fs4c337_12_ok⟩
  · exact ⟨rfl, fs4c337_13_ok⟩
  · exact ⟨rfl, fs4c337_14_ok⟩
  · exact ⟨rfl, fs4c337_15_ok⟩
  · exact ⟨rfl, fs4c337_16_ok⟩
  · exact ⟨rfl, fs4c337_17_ok⟩) base
theorem bad_S4_1 : ∀ f, bad0 f = true → S4_1 f ≠ none := bad_add bad_L0
theorem fs4c268_0_ok : FactOk E0 fs4c268_0 := fact_of S4_1_ok bad_S4_1 fs4c268_0_run
theorem S4_2_ok (base : Nat) : SummOk E0 base S4_2 := add_ok S4_1_ok (by
  intro F hF
  simp only [List.mem_cons, List.not_mem_nil, or_false] at hF
  rcases hF with rfl
  · exact ⟨rfl, fs4c268_0_ok⟩) base
theorem bad_S4_2 : ∀ f, bad0 f = true → S4_2 f ≠ none := bad_add bad_S4_1
theorem fs4c277_0_ok : FactOk E0 fs4c277_0 := fact_of S4_2_ok bad_S4_2 fs4c277_0_run
theorem S4_3_ok (base : Nat) : SummOk E0 base S4_3 := add_ok S4_2_ok (by
  intro F hF
  simp only [List.mem_cons, List.not_mem_nil, or_false] at hF
  rcases hF with rfl
  · exact ⟨rfl, fs4c277_0_ok⟩) base
theorem bad_S4_3 : ∀ f, bad0 f = true → S4_3 f ≠ none := bad_add bad_S4_2
theorem fs4c218_0_ok : FactOk E0 fs4c218_0 := fact_of S4_3_ok bad_S4_3 fs4c218_0_run
theorem S4_4_ok (base : Nat) : SummOk E0 base S4_4 := add_ok S4_3_ok (by
  intro F hF
  simp only [List.mem_cons, List.not_mem_nil, or_false] at hF
  rcases hF with rfl
  · exact ⟨rfl, fs4c218_0_ok⟩) base
theorem bad_S4_4 : ∀ f, bad0 f = true → S4_4 f ≠ none := bad_add bad_S4_3
theorem fs4c219_0_ok : FactOk E0 fs4c219_0 := fact_of S4_4_ok bad_S4_4 fs4c219_0_run
theorem S4_5_ok (base : Nat) : SummOk E0 base S4_5 := add_ok S4_4_ok (by
  intro F hF
  simp only [List.mem_cons, List.not_mem_nil, or_false] at hF
  rcases hF with rfl
  · exact ⟨rfl, fs4c219_0_ok⟩) base
theorem bad_S4_5 : ∀ f, bad0 f = true → S4_5 f ≠ none := bad_add bad_S4_4
theorem fs4c55_0_ok : FactOk E0 fs4c55_0 := fact_of S4_5_ok bad_S4_5 fs4c55_0_run
theorem S4_6_ok (base : Nat) : SummOk E0 base S4_6 := add_ok S4_5_ok (by
  intro F hF
  simp only [List.mem_cons, List.not_mem_nil, or_false] at hF
  rcases hF with rfl
  · exact ⟨rfl, fs4c55_0_ok⟩) base
theorem bad_S4_6 : ∀ f, bad0 f = true → S4_6 f ≠ none := bad_add bad_S4_5
theorem fs4c9_0_ok : FactOk E0 fs4c9_0 := fact_of S4_6_ok bad_S4_6 fs4c9_0_run
theorem S4_7_ok (base : Nat) : SummOk E0 base S4_7 := add_ok S4_6_ok (by
  intro F hF
  simp only [List.mem_cons, List.not_mem_nil, or_false] at hF
  rcases hF with rfl
  · exact ⟨rfl, fs4c9_0_ok⟩) base
theorem bad_S4_7 : ∀ f, bad0 f = true → S4_7 f ≠ none := bad_add bad_S4_6

end Ev
end Go.Proofs.YtodemhmfnokomaaGreatDoor
namespace Go.Proofs.YtodemhmfnokomaaGreatDoor
namespace Ev
open Go

theorem fs5c337_0_ok : FactOk E0 fs5c337_0 := fact_of L0_ok bad_L0 fs5c337_0_run
theorem fs5c337_1_ok : FactOk E0 fs5c337_1 := fact_of L0_ok bad_L0 fs5c337_1_run
theorem fs5c337_2_ok : FactOk E0 fs5c337_2 := fact_of L0_ok bad_L0 fs5c337_2_run
theorem fs5c337_3_ok : FactOk E0 fs5c337_3 := fact_of L0_ok bad_L0 fs5c337_3_run
theorem fs5c337_4_ok : FactOk E0 fs5c337_4 := fact_of L0_ok bad_L0 fs5c337_4_run
theorem fs5c337_5_ok : FactOk E0 fs5c337_5 := fact_of L0_ok bad_L0 fs5c337_5_run
theorem fs5c337_6_ok : FactOk E0 fs5c337_6 := fact_of L0_ok bad_L0 fs5c337_6_run
theorem fs5c337_7_ok : FactOk E0 fs5c337_7 := fact_of L0_ok bad_L0 fs5c337_7_run
theorem fs5c337_8_ok : FactOk E0 fs5c337_8 := fact_of L0_ok bad_L0 fs5c337_8_run
theorem fs5c337_9_ok : FactOk E0 fs5c337_9 := fact_of L0_ok bad_L0 fs5c337_9_run
theorem fs5c337_10_ok : FactOk E0 fs5c337_10 := fact_of L0_ok bad_L0 fs5c337_10_run
theorem fs5c337_11_ok : FactOk E0 fs5c337_11 := fact_of L0_ok bad_L0 fs5c337_11_run
theorem S5_1_ok (base : Nat) : SummOk E0 base S5_1 := add_ok L0_ok (by
  intro F hF
  simp only [List.mem_cons, List.not_mem_nil, or_false] at hF
  rcases hF with rfl | rfl | rfl | rfl | rfl | rfl | rfl | rfl | rfl | rfl | rfl | rfl
  · exact ⟨rfl, fs5c337_0_ok⟩
  · exact ⟨rfl, fs5c337_1_ok⟩
  · exact ⟨rfl, fs5c337_2_ok⟩
  · exact ⟨rfl, fs5c337_3_ok⟩
  · exact ⟨rfl, fs5c337_4_ok⟩
  · exact ⟨rfl, fs5c337_5_ok⟩
  · exact ⟨rfl, fs5c337_6_ok⟩
  · exact ⟨rfl, fs5c337_7_ok⟩
  · exact ⟨rfl, fs5c337_8_ok⟩
  · exact ⟨rfl, fs5c337_9_ok⟩
  · exact ⟨rfl, fs5c337_10_ok⟩
  · exact ⟨rfl, fs5c337_11_ok⟩) base
theorem bad_S5_1 : ∀ f, bad0 f = true → S5_1 f ≠ none := bad_add bad_L0
theorem fs5c268_0_ok : FactOk E0 fs5c268_0 := fact_of S5_1_ok bad_S5_1 fs5c268_0_run
theorem S5_2_ok (base : Nat) : SummOk E0 base S5_2 := add_ok S5_1_ok (by
  intro F hF
  simp only [List.mem_cons, List.not_mem_nil, or_false] at hF
  rcases hF with rfl
  · exact ⟨rfl, fs5c268_0_ok⟩) base
theorem bad_S5_2 : ∀ f, bad0 f = true → S5_2 f ≠ none := bad_add bad_S5_1
theorem fs5c277_0_ok : FactOk E0 fs5c277_0 := fact_of S5_2_ok bad_S5_2 fs5c277_0_run
theorem S5_3_ok (base : Nat) : SummOk E0 base S5_3 := add_ok S5_2_ok (by
  intro F hF
  simp only [List.mem_cons, List.not_mem_nil, or_false] at hF
  rcases hF with rfl
  · exact ⟨rfl, fs5c277_0_ok⟩) base
theorem bad_S5_3 : ∀ f, bad0 f = true → S5_3 f ≠ none := bad_add bad_S5_2
theorem fs5c218_0_ok : FactOk E0 fs5c218_0 := fact_of S5_3_ok bad_S5_3 fs5c218_0_run
theorem S5_4_ok (base : Nat) : SummOk E0 base S5_4 := add_ok S5_3_ok (by
  intro F hF
  simp only [List.mem_cons, List.not_mem_nil, or_false] at hF
  rcases hF with rfl
  · exact ⟨rfl, fs5c218_0_ok⟩) base
theorem bad_S5_4 : ∀ f, bad0 f = true → S5_4 f ≠ none := bad_add bad_S5_3
theorem fs5c219_0_ok : FactOk E0 fs5c219_0 := fact_of S5_4_ok bad_S5_4 fs5c219_0_run
theorem S5_5_ok (base : Nat) : SummOk E0 base S5_5 := add_ok S5_4_ok (by
  intro F hF
  simp only [List.mem_cons, List.not_mem_nil, or_false] at hF
  rcases hF with rfl
  · exact ⟨rfl, fs5c219_0_ok⟩) base
theorem bad_S5_5 : ∀ f, bad0 f = true → S5_5 f ≠ none := bad_add bad_S5_4
theorem fs5c55_0_ok : FactOk E0 fs5c55_0 := fact_of S5_5_ok bad_S5_5 fs5c55_0_run
theorem S5_6_ok (base : Nat) : SummOk E0 base S5_6 := add_ok S5_5_ok (by
  intro F hF
  simp only [List.mem_cons, List.not_mem_nil, or_false] at hF
  rcases hF with rfl
  · exact ⟨rfl, fs5c55_0_ok⟩) base
theorem bad_S5_6 : ∀ f, bad0 f = true → S5_6 f ≠ none := bad_add bad_S5_5
theorem fs5c9_0_ok : FactOk E0 fs5c9_0 := fact_of S5_6_ok bad_S5_6 fs5c9_0_run
theorem S5_7_ok (base : Nat) : SummOk E0 base S5_7 := add_ok S5_6_ok (by
  intro F hF
  simp only [List.mem_cons, List.not_mem_nil, or_false] at hF
  rcases hF with rfl
  · exact ⟨rfl, fs5c9_0_ok⟩) base
theorem bad_S5_7 : ∀ f, bad0 f = true → S5_7 f ≠ none := bad_add bad_S5_6

end Ev
end Go.Proofs.YtodemhmfnokomaaGreatDoor
namespace Go.Proofs.YtodemhmfnokomaaGreatDoor
namespace Ev
open Go Go.Proofs
open Go.RowKit (Below)

theorem SS_ok (r base : Nat) : SummOk E0 base (SS r) := by
  unfold SS
  refine add_ok (fun base => ?_) (fun F hF => ?_) base
  · split
    · exact S0_7_ok base
    · exact S1_7_ok base
    · exact add_ok L0_ok (memC ⟨rfl, q2c9_0_ok⟩ memN0) base
    · exact S3_8_ok base
    · exact S4_7_ok base
    · exact S5_7_ok base
  · simp only [List.mem_cons, List.not_mem_nil, or_false] at hF
    rcases hF with rfl
    exact ⟨rfl, fc8_0_ok⟩

theorem SS_bad (r : Nat) : ∀ f, bad0 f = true → SS r f ≠ none := by
  unfold SS
  refine bad_add fun f hf => ?_
  split
  · exact bad_S0_7 f hf
  · exact bad_S1_7 f hf
  · exact bad_add bad_L0 f hf
  · exact bad_S3_8 f hf
  · exact bad_S4_7 f hf
  · exact bad_S5_7 f hf

theorem all_runs (r : Nat) (h : r < 6) : ∃ L, 0 < L ∧ RunOk r L ∧ ∀ n x, x < L → isT (saR3 r n x) = true := by
  match r, h with
  | 0, _ => exact ⟨3, by decide, run_0, fin_0⟩
  | 1, _ => exact ⟨6, by decide, run_1, fin_1⟩
  | 2, _ => exact ⟨6, by decide, run_2, fin_2⟩
  | 3, _ => exact ⟨3, by decide, run_3, fin_3⟩
  | 4, _ => exact ⟨4, by decide, run_4, fin_4⟩
  | 5, _ => exact ⟨3, by decide, run_5, fin_5⟩

/-- what the runs know of memory -/
def Laid0s (w : World) : Prop := ∀ n cs, E0.glob n = some cs → n < w.heap.size ∧ ∃ C T fr, w.heap[n]? = some (.cells C T fr) ∧ VRels (fun _ => none) cs C.toList

theorem sa_has : hasBody E0.P 4 = true := by kernel_rfl

theorem samples_walk (k t : Int) (ht : 0 ≤ t ∧ t ≤ 255) (w : World) (hG : Laid0s w) : Calls Tryz.prog 4 #[.int .i64 k, .int .u8 t] w fun e w' => e = .returned (.bool true) ∧ Below w.heap.size w w' := by
  obtain ⟨n, rfl⟩ : ∃ n : Nat, t = n := ⟨t.toNat, by omega⟩
  refine FnRuns.law (E := E0) (f := 4) (args := [zA k, .nat .u8 n]) sa_has (samples_runs SS_ok SS_bad all_runs k n (by omega)) hG ?_
  simp only [VRels]
  exact ⟨_, _, rfl, zA_rel _ k, _, _, rfl, by simp only [VRel]; rfl, rfl⟩

end Ev
end Go.Proofs.YtodemhmfnokomaaGreatDoor
