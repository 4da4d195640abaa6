/- Facts of the sample 2, run by the kernel. Conditions: none. -/
import Derived.Test.YtodemhmfnokomaaGreatDoorSdc
import Derived.KernelRfl
namespace Go.Proofs.YtodemhmfnokomaaGreatDoor
namespace Ev
open Go

theorem q2c337_0_run : chkFact q2c337_0 (callR E0 idle0 q2c337_0S 60 noY 337 q2c337_0.args (heapOf q2c337_0)) = true := by kernel_rfl
theorem q2c337_1_run : chkFact q2c337_1 (callR E0 idle0 q2c337_1S 60 noY 337 q2c337_1.args (heapOf q2c337_1)) = true := by kernel_rfl
theorem q2c337_2_run : chkFact q2c337_2 (callR E0 idle0 q2c337_2S 60 noY 337 q2c337_2.args (heapOf q2c337_2)) = true := by kernel_rfl
theorem q2c337_3_run : chkFact q2c337_3 (callR E0 idle0 q2c337_3S 60 noY 337 q2c337_3.args (heapOf q2c337_3)) = true := by kernel_rfl
theorem q2c337_4_run : chkFact q2c337_4 (callR E0 idle0 q2c337_4S 60 noY 337 q2c337_4.args (heapOf q2c337_4)) = true := by kernel_rfl
theorem q2c337_5_run : chkFact q2c337_5 (callR E0 idle0 q2c337_5S 60 noY 337 q2c337_5.args (heapOf q2c337_5)) = true := by kernel_rfl
theorem q2c337_6_run : chkFact q2c337_6 (callR E0 idle0 q2c337_6S 60 noY 337 q2c337_6.args (heapOf q2c337_6)) = true := by kernel_rfl
theorem q2c337_7_run : chkFact q2c337_7 (callR E0 idle0 q2c337_7S 60 noY 337 q2c337_7.args (heapOf q2c337_7)) = true := by kernel_rfl
theorem q2c337_8_run : chkFact q2c337_8 (callR E0 idle0 q2c337_8S 60 noY 337 q2c337_8.args (heapOf q2c337_8)) = true := by kernel_rfl
theorem q2c337_9_run : chkFact q2c337_9 (callR E0 idle0 q2c337_9S 60 noY 337 q2c337_9.args (heapOf q2c337_9)) = true := by kernel_rfl
theorem q2c337_10_run : chkFact q2c337_10 (callR E0 idle0 q2c337_10S 60 noY 337 q2c337_10.args (heapOf q2c337_10)) = true := by kernel_rfl
theorem q2c337_11_run : chkFact q2c337_11 (callR E0 idle0 q2c337_11S 60 noY 337 q2c337_11.args (heapOf q2c337_11)) = true := by kernel_rfl
theorem q2c337_12_run : chkFact q2c337_12 (callR E0 idle0 q2c337_12S 60 noY 337 q2c337_12.args (heapOf q2c337_12)) = true := by kernel_rfl
theorem q2c337_13_run : chkFact q2c337_13 (callR E0 idle0 q2c337_13S 60 noY 337 q2c337_13.args (heapOf q2c337_13)) = true := by kernel_rfl
theorem q2c337_14_run : chkFact q2c337_14 (callR E0 idle0 q2c337_14S 60 noY 337 q2c337_14.args (heapOf q2c337_14)) = true := by kernel_rfl
theorem q2c337_15_run : chkFact q2c337_15 (callR E0 idle0 q2c337_15S 60 noY 337 q2c337_15.args (heapOf q2c337_15)) = true := by kernel_rfl
theorem q2c337_16_run : chkFact q2c337_16 (callR E0 idle0 q2c337_16S 60 noY 337 q2c337_16.args (heapOf q2c337_16)) = true := by kernel_rfl
theorem q2c337_17_run : chkFact q2c337_17 (callR E0 idle0 q2c337_17S 60 noY 337 q2c337_17.args (heapOf q2c337_17)) = true := by kernel_rfl
theorem q2c337_18_run : chkFact q2c337_18 (callR E0 idle0 q2c337_18S 60 noY 337 q2c337_18.args (heapOf q2c337_18)) = true := by kernel_rfl
theorem q2c337_19_run : chkFact q2c337_19 (callR E0 idle0 q2c337_19S 60 noY 337 q2c337_19.args (heapOf q2c337_19)) = true := by kernel_rfl
theorem q2c337_20_run : chkFact q2c337_20 (callR E0 idle0 q2c337_20S 60 noY 337 q2c337_20.args (heapOf q2c337_20)) = true := by kernel_rfl
theorem q2c337_21_run : chkFact q2c337_21 (callR E0 idle0 q2c337_21S 60 noY 337 q2c337_21.args (heapOf q2c337_21)) = true := by kernel_rfl
theorem q2c337_22_run : chkFact q2c337_22 (callR E0 idle0 q2c337_22S 60 noY 337 q2c337_22.args (heapOf q2c337_22)) = true := by kernel_rfl
theorem q2c337_23_run : chkFact q2c337_23 (callR E0 idle0 q2c337_23S 60 noY 337 q2c337_23.args (heapOf q2c337_23)) = true := by kernel_rfl
theorem q2c337_24_run : chkFact q2c337_24 (callR E0 idle0 q2c337_24S 60 noY 337 q2c337_24.args (heapOf q2c337_24)) = true := by kernel_rfl
theorem q2c337_25_run : chkFact q2c337_25 (callR E0 idle0 q2c337_25S 60 noY 337 q2c337_25.args (heapOf q2c337_25)) = true := by kernel_rfl
theorem q2c337_26_run : chkFact q2c337_26 (callR E0 idle0 q2c337_26S 60 noY 337 q2c337_26.args (heapOf q2c337_26)) = true := by kernel_rfl
theorem q2c337_27_run : chkFact q2c337_27 (callR E0 idle0 q2c337_27S 60 noY 337 q2c337_27.args (heapOf q2c337_27)) = true := by kernel_rfl
theorem q2c337_28_run : chkFact q2c337_28 (callR E0 idle0 q2c337_28S 60 noY 337 q2c337_28.args (heapOf q2c337_28)) = true := by kernel_rfl
theorem q2c337_29_run : chkFact q2c337_29 (callR E0 idle0 q2c337_29S 60 noY 337 q2c337_29.args (heapOf q2c337_29)) = true := by kernel_rfl
theorem q2c337_30_run : chkFact q2c337_30 (callR E0 idle0 q2c337_30S 60 noY 337 q2c337_30.args (heapOf q2c337_30)) = true := by kernel_rfl
theorem q2c337_31_run : chkFact q2c337_31 (callR E0 idle0 q2c337_31S 60 noY 337 q2c337_31.args (heapOf q2c337_31)) = true := by kernel_rfl
theorem q2c337_32_run : chkFact q2c337_32 (callR E0 idle0 q2c337_32S 60 noY 337 q2c337_32.args (heapOf q2c337_32)) = true := by kernel_rfl
theorem q2c337_33_run : chkFact q2c337_33 (callR E0 idle0 q2c337_33S 60 noY 337 q2c337_33.args (heapOf q2c337_33)) = true := by kernel_rfl
theorem q2c337_34_run : chkFact q2c337_34 (callR E0 idle0 q2c337_34S 60 noY 337 q2c337_34.args (heapOf q2c337_34)) = true := by kernel_rfl
theorem q2c337_35_run : chkFact q2c337_35 (callR E0 idle0 q2c337_35S 60 noY 337 q2c337_35.args (heapOf q2c337_35)) = true := by kernel_rfl
theorem q2c337_36_run : chkFact q2c337_36 (callR E0 idle0 q2c337_36S 60 noY 337 q2c337_36.args (heapOf q2c337_36)) = true := by kernel_rfl
theorem q2c337_37_run : chkFact q2c337_37 (callR E0 idle0 q2c337_37S 60 noY 337 q2c337_37.args (heapOf q2c337_37)) = true := by kernel_rfl
theorem q2c337_38_run : chkFact q2c337_38 (callR E0 idle0 q2c337_38S 60 noY 337 q2c337_38.args (heapOf q2c337_38)) = true := by kernel_rfl
theorem q2c337_39_run : chkFact q2c337_39 (callR E0 idle0 q2c337_39S 60 noY 337 q2c337_39.args (heapOf q2c337_39)) = true := by kernel_rfl
theorem q2c337_40_run : chkFact q2c337_40 (callR E0 idle0 q2c337_40S 60 noY 337 q2c337_40.args (heapOf q2c337_40)) = true := by kernel_rfl
theorem q2c337_41_run : chkFact q2c337_41 (callR E0 idle0 q2c337_41S 60 noY 337 q2c337_41.args (heapOf q2c337_41)) = true := by kernel_rfl
theorem q2c337_42_run : chkFact q2c337_42 (callR E0 idle0 q2c337_42S 60 noY 337 q2c337_42.args (heapOf q2c337_42)) = true := by kernel_rfl
theorem q2c337_43_run : chkFact q2c337_43 (callR E0 idle0 q2c337_43S 60 noY 337 q2c337_43.args (heapOf q2c337_43)) = true := by kernel_rfl
theorem q2c337_44_run : chkFact q2c337_44 (callR E0 idle0 q2c337_44S 60 noY 337 q2c337_44.args (heapOf q2c337_44)) = true := by kernel_rfl
theorem q2c337_45_run : chkFact q2c337_45 (callR E0 idle0 q2c337_45S 60 noY 337 q2c337_45.args (heapOf q2c337_45)) = true := by kernel_rfl
theorem q2c337_46_run : chkFact q2c337_46 (callR E0 idle0 q2c337_46S 60 noY 337 q2c337_46.args (heapOf q2c337_46)) = true := by kernel_rfl
theorem q2c337_47_run : chkFact q2c337_47 (callR E0 idle0 q2c337_47S 60 noY 337 q2c337_47.args (heapOf q2c337_47)) = true := by kernel_rfl
theorem q2c337_48_run : chkFact q2c337_48 (callR E0 idle0 q2c337_48S 60 noY 337 q2c337_48.args (heapOf q2c337_48)) = true := by kernel_rfl
theorem q2c337_49_run : chkFact q2c337_49 (callR E0 idle0 q2c337_49S 60 noY 337 q2c337_49.args (heapOf q2c337_49)) = true := by kernel_rfl
theorem q2c337_50_run : chkFact q2c337_50 (callR E0 idle0 q2c337_50S 60 noY 337 q2c337_50.args (heapOf q2c337_50)) = true := by kernel_rfl
theorem q2c337_51_run : chkFact q2c337_51 (callR E0 idle0 q2c337_51S 60 noY 337 q2c337_51.args (heapOf q2c337_51)) = true := by kernel_rfl
theorem q2c337_52_run : chkFact q2c337_52 (callR E0 idle0 q2c337_52S 60 noY 337 q2c337_52.args (heapOf q2c337_52)) = true := by kernel_rfl
theorem q2c337_53_run : chkFact q2c337_53 (callR E0 idle0 q2c337_53S 60 noY 337 q2c337_53.args (heapOf q2c337_53)) = true := by kernel_rfl
theorem q2c337_54_run : chkFact q2c337_54 (callR E0 idle0 q2c337_54S 60 noY 337 q2c337_54.args (heapOf q2c337_54)) = true := by kernel_rfl
theorem q2c337_55_run : chkFact q2c337_55 (callR E0 idle0 q2c337_55S 60 noY 337 q2c337_55.args (heapOf q2c337_55)) = true := by kernel_rfl
theorem q2c337_56_run : chkFact q2c337_56 (callR E0 idle0 q2c337_56S 60 noY 337 q2c337_56.args (heapOf q2c337_56)) = true := by kernel_rfl
theorem q2c337_57_run : chkFact q2c337_57 (callR E0 idle0 q2c337_57S 60 noY 337 q2c337_57.args (heapOf q2c337_57)) = true := by kernel_rfl
theorem q2c337_58_run : chkFact q2c337_58 (callR E0 idle0 q2c337_58S 60 noY 337 q2c337_58.args (heapOf q2c337_58)) = true := by kernel_rfl
theorem q2c337_59_run : chkFact q2c337_59 (callR E0 idle0 q2c337_59S 60 noY 337 q2c337_59.args (heapOf q2c337_59)) = true := by kernel_rfl
theorem q2c337_60_run : chkFact q2c337_60 (callR E0 idle0 q2c337_60S 60 noY 337 q2c337_60.args (heapOf q2c337_60)) = true := by kernel_rfl
theorem q2c337_61_run : chkFact q2c337_61 (callR E0 idle0 q2c337_61S 60 noY 337 q2c337_61.args (heapOf q2c337_61)) = true := by kernel_rfl
theorem q2c337_62_run : chkFact q2c337_62 (callR E0 idle0 q2c337_62S 60 noY 337 q2c337_62.args (heapOf q2c337_62)) = true := by kernel_rfl
theorem q2c337_63_run : chkFact q2c337_63 (callR E0 idle0 q2c337_63S 60 noY 337 q2c337_63.args (heapOf q2c337_63)) = true := by kernel_rfl
theorem q2c337_64_run : chkFact q2c337_64 (callR E0 idle0 q2c337_64S 60 noY 337 q2c337_64.args (heapOf q2c337_64)) = true := by kernel_rfl
theorem q2c337_65_run : chkFact q2c337_65 (callR E0 idle0 q2c337_65S 60 noY 337 q2c337_65.args (heapOf q2c337_65)) = true := by kernel_rfl
theorem q2c337_66_run : chkFact q2c337_66 (callR E0 idle0 q2c337_66S 60 noY 337 q2c337_66.args (heapOf q2c337_66)) = true := by kernel_rfl
theorem q2c337_67_run : chkFact q2c337_67 (callR E0 idle0 q2c337_67S 60 noY 337 q2c337_67.args (heapOf q2c337_67)) = true := by kernel_rfl
theorem q2c337_68_run : chkFact q2c337_68 (callR E0 idle0 q2c337_68S 60 noY 337 q2c337_68.args (heapOf q2c337_68)) = true := by kernel_rfl
theorem q2c337_69_run : chkFact q2c337_69 (callR E0 idle0 q2c337_69S 60 noY 337 q2c337_69.args (heapOf q2c337_69)) = true := by kernel_rfl
theorem q2c337_70_run : chkFact q2c337_70 (callR E0 idle0 q2c337_70S 60 noY 337 q2c337_70.args (heapOf q2c337_70)) = true := by kernel_rfl
theorem q2c337_71_run : chkFact q2c337_71 (callR E0 idle0 q2c337_71S 60 noY 337 q2c337_71.args (heapOf q2c337_71)) = true := by kernel_rfl
theorem q2c337_72_run : chkFact q2c337_72 (callR E0 idle0 q2c337_72S 60 noY 337 q2c337_72.args (heapOf q2c337_72)) = true := by kernel_rfl
theorem q2c337_73_run : chkFact q2c337_73 (callR E0 idle0 q2c337_73S 60 noY 337 q2c337_73.args (heapOf q2c337_73)) = true := by kernel_rfl
theorem q2c337_74_run : chkFact q2c337_74 (callR E0 idle0 q2c337_74S 60 noY 337 q2c337_74.args (heapOf q2c337_74)) = true := by kernel_rfl
theorem q2c337_75_run : chkFact q2c337_75 (callR E0 idle0 q2c337_75S 60 noY 337 q2c337_75.args (heapOf q2c337_75)) = true := by kernel_rfl
theorem q2c337_76_run : chkFact q2c337_76 (callR E0 idle0 q2c337_76S 60 noY 337 q2c337_76.args (heapOf q2c337_76)) = true := by kernel_rfl
theorem q2c337_77_run : chkFact q2c337_77 (callR E0 idle0 q2c337_77S 60 noY 337 q2c337_77.args (heapOf q2c337_77)) = true := by kernel_rfl
theorem q2c337_78_run : chkFact q2c337_78 (callR E0 idle0 q2c337_78S 60 noY 337 q2c337_78.args (heapOf q2c337_78)) = true := by kernel_rfl
theorem q2c337_79_run : chkFact q2c337_79 (callR E0 idle0 q2c337_79S 60 noY 337 q2c337_79.args (heapOf q2c337_79)) = true := by kernel_rfl
theorem q2c337_80_run : chkFact q2c337_80 (callR E0 idle0 q2c337_80S 60 noY 337 q2c337_80.args (heapOf q2c337_80)) = true := by kernel_rfl
theorem q2c337_81_run : chkFact q2c337_81 (callR E0 idle0 q2c337_81S 60 noY 337 q2c337_81.args (heapOf q2c337_81)) = true := by kernel_rfl
theorem q2c337_82_run : chkFact q2c337_82 (callR E0 idle0 q2c337_82S 60 noY 337 q2c337_82.args (heapOf q2c337_82)) = true := by kernel_rfl
theorem q2c337_83_run : chkFact q2c337_83 (callR E0 idle0 q2c337_83S 60 noY 337 q2c337_83.args (heapOf q2c337_83)) = true := by kernel_rfl
theorem q2c337_84_run : chkFact q2c337_84 (callR E0 idle0 q2c337_84S 60 noY 337 q2c337_84.args (heapOf q2c337_84)) = true := by kernel_rfl
theorem q2c337_85_run : chkFact q2c337_85 (callR E0 idle0 q2c337_85S 60 noY 337 q2c337_85.args (heapOf q2c337_85)) = true := by kernel_rfl
theorem q2c337_86_run : chkFact q2c337_86 (callR E0 idle0 q2c337_86S 60 noY 337 q2c337_86.args (heapOf q2c337_86)) = true := by kernel_rfl
theorem q2c337_87_run : chkFact q2c337_87 (callR E0 idle0 q2c337_87S 60 noY 337 q2c337_87.args (heapOf q2c337_87)) = true := by kernel_rfl
theorem q2c337_88_run : chkFact q2c337_88 (callR E0 idle0 q2c337_88S 60 noY 337 q2c337_88.args (heapOf q2c337_88)) = true := by kernel_rfl
theorem q2c337_89_run : chkFact q2c337_89 (callR E0 idle0 q2c337_89S 60 noY 337 q2c337_89.args (heapOf q2c337_89)) = true := by kernel_rfl
theorem q2c337_90_run : chkFact q2c337_90 (callR E0 idle0 q2c337_90S 60 noY 337 q2c337_90.args (heapOf q2c337_90)) = true := by kernel_rfl
theorem q2c337_91_run : chkFact q2c337_91 (callR E0 idle0 q2c337_91S 60 noY 337 q2c337_91.args (heapOf q2c337_91)) = true := by kernel_rfl
theorem q2c337_92_run : chkFact q2c337_92 (callR E0 idle0 q2c337_92S 60 noY 337 q2c337_92.args (heapOf q2c337_92)) = true := by kernel_rfl

end Ev
end Go.Proofs.YtodemhmfnokomaaGreatDoor
