/- The tables are the program. Printed by a program. -/
import Derived.Test.YtahhbplejfjmnaaGreatDoorT
import Derived.Test.YtahhbplejfjmnaaGreatDoorEI
namespace Go.Ev
open Go Go.Sl Go.Proofs
set_option maxRecDepth 20000
theorem ti0_ok : TOk Tryz.prog 0 ti0 := ⟨Tryz.underlying0, Tryz.isAgg0, Tryz.sizeOf0, Tryz.zeroValue0, ⟨Tryz.t0, Tryz.typeInfo0, rfl⟩, (fun h => by cases h)⟩
theorem ti1_ok : TOk Tryz.prog 1 ti1 := ⟨Tryz.underlying1, Tryz.isAgg1, Tryz.sizeOf1, Tryz.zeroValue1, ⟨Tryz.t1, Tryz.typeInfo1, rfl⟩, (fun h => by cases h)⟩
theorem ti2_ok : TOk Tryz.prog 2 ti2 := ⟨Tryz.underlying2, Tryz.isAgg2, Tryz.sizeOf2, Tryz.zeroValue2, ⟨Tryz.t2, Tryz.typeInfo2, rfl⟩, (fun h => by cases h)⟩
theorem ti3_ok : TOk Tryz.prog 3 ti3 := ⟨Tryz.underlying3, Tryz.isAgg3, Tryz.sizeOf3, Tryz.zeroValue3, ⟨Tryz.t3, Tryz.typeInfo3, rfl⟩, (fun h => by cases h)⟩
theorem ti4_ok : TOk Tryz.prog 4 ti4 := ⟨Tryz.underlying4, Tryz.isAgg4, Tryz.sizeOf4, Tryz.zeroValue4, ⟨Tryz.t4, Tryz.typeInfo4, rfl⟩, (fun h => by cases h)⟩
theorem ti5_ok : TOk Tryz.prog 5 ti5 := ⟨Tryz.underlying5, Tryz.isAgg5, Tryz.sizeOf5, Tryz.zeroValue5, ⟨Tryz.t5, Tryz.typeInfo5, rfl⟩, (fun h => by cases h)⟩
theorem ti6_ok : TOk Tryz.prog 6 ti6 := ⟨Tryz.underlying6, Tryz.isAgg6, Tryz.sizeOf6, Tryz.zeroValue6, ⟨Tryz.t6, Tryz.typeInfo6, rfl⟩, (fun h => by cases h)⟩
theorem ti7_ok : TOk Tryz.prog 7 ti7 := ⟨Tryz.underlying7, Tryz.isAgg7, Tryz.sizeOf7, Tryz.zeroValue7, ⟨Tryz.t7, Tryz.typeInfo7, rfl⟩, (fun h => by cases h)⟩
theorem ti8_ok : TOk Tryz.prog 8 ti8 := ⟨Tryz.underlying8, Tryz.isAgg8, Tryz.sizeOf8, Tryz.zeroValue8, ⟨Tryz.t8, Tryz.typeInfo8, rfl⟩, (fun h => by cases h)⟩
theorem ti9_ok : TOk Tryz.prog 9 ti9 := ⟨Tryz.underlying9, Tryz.isAgg9, Tryz.sizeOf9, Tryz.zeroValue9, ⟨Tryz.t9, Tryz.typeInfo9, rfl⟩, (fun h => by cases h)⟩
theorem ti10_ok : TOk Tryz.prog 10 ti10 := ⟨Tryz.underlying10, Tryz.isAgg10, Tryz.sizeOf10, Tryz.zeroValue10, ⟨Tryz.t10, Tryz.typeInfo10, rfl⟩, (fun h => by cases h)⟩
theorem ti11_ok : TOk Tryz.prog 11 ti11 := ⟨Tryz.underlying11, Tryz.isAgg11, Tryz.sizeOf11, Tryz.zeroValue11, ⟨Tryz.t11, Tryz.typeInfo11, rfl⟩, (fun h => by cases h)⟩
theorem ti12_ok : TOk Tryz.prog 12 ti12 := ⟨Tryz.underlying12, Tryz.isAgg12, Tryz.sizeOf12, Tryz.zeroValue12, ⟨Tryz.t12, Tryz.typeInfo12, rfl⟩, (fun h => by cases h)⟩
theorem ti13_ok : TOk Tryz.prog 13 ti13 := ⟨Tryz.underlying13, Tryz.isAgg13, Tryz.sizeOf13, Tryz.zeroValue13, ⟨Tryz.t13, Tryz.typeInfo13, rfl⟩, (fun h => by cases h)⟩
theorem ti14_ok : TOk Tryz.prog 14 ti14 := ⟨Tryz.underlying14, Tryz.isAgg14, Tryz.sizeOf14, Tryz.zeroValue14, ⟨Tryz.t14, Tryz.typeInfo14, rfl⟩, (fun h => by cases h)⟩
theorem ti15_ok : TOk Tryz.prog 15 ti15 := ⟨Tryz.underlying15, Tryz.isAgg15, Tryz.sizeOf15, Tryz.zeroValue15, ⟨Tryz.t15, Tryz.typeInfo15, rfl⟩, (fun h => by cases h)⟩
theorem ti16_ok : TOk Tryz.prog 16 ti16 := ⟨Tryz.underlying16, Tryz.isAgg16, Tryz.sizeOf16, Tryz.zeroValue16, ⟨Tryz.t16, Tryz.typeInfo16, rfl⟩, (fun h => by cases h)⟩
theorem ti17_ok : TOk Tryz.prog 17 ti17 := ⟨Tryz.underlying17, Tryz.isAgg17, Tryz.sizeOf17, Tryz.zeroValue17, ⟨Tryz.t17, Tryz.typeInfo17, rfl⟩, (fun h => by cases h)⟩
theorem ti18_ok : TOk Tryz.prog 18 ti18 := ⟨Tryz.underlying18, Tryz.isAgg18, Tryz.sizeOf18, Tryz.zeroValue18, ⟨Tryz.t18, Tryz.typeInfo18, rfl⟩, (fun h => by cases h)⟩
theorem ti19_ok : TOk Tryz.prog 19 ti19 := ⟨Tryz.underlying19, Tryz.isAgg19, Tryz.sizeOf19, Tryz.zeroValue19, ⟨Tryz.t19, Tryz.typeInfo19, rfl⟩, (fun h => by cases h)⟩
theorem ti20_ok : TOk Tryz.prog 20 ti20 := ⟨Tryz.underlying20, Tryz.isAgg20, Tryz.sizeOf20, Tryz.zeroValue20, ⟨Tryz.t20, Tryz.typeInfo20, rfl⟩, (fun h => by cases h)⟩
theorem ti21_ok : TOk Tryz.prog 21 ti21 := ⟨Tryz.underlying21, Tryz.isAgg21, Tryz.sizeOf21, Tryz.zeroValue21, ⟨Tryz.t21, Tryz.typeInfo21, rfl⟩, (fun h => by cases h)⟩
theorem ti22_ok : TOk Tryz.prog 22 ti22 := ⟨Tryz.underlying22, Tryz.isAgg22, Tryz.sizeOf22, Tryz.zeroValue22, ⟨Tryz.t22, Tryz.typeInfo22, rfl⟩, (fun h => by cases h)⟩
theorem ti23_ok : TOk Tryz.prog 23 ti23 := ⟨Tryz.underlying23, Tryz.isAgg23, Tryz.sizeOf23, Tryz.zeroValue23, ⟨Tryz.t23, Tryz.typeInfo23, rfl⟩, (fun _ => ⟨Tryz.stoodInHeld23, Tryz.eqGuardType23, by intro fs h; cases h; decide⟩)⟩
theorem ti24_ok : TOk Tryz.prog 24 ti24 := ⟨Tryz.underlying24, Tryz.isAgg24, Tryz.sizeOf24, Tryz.zeroValue24, ⟨Tryz.t24, Tryz.typeInfo24, rfl⟩, (fun _ => ⟨Tryz.stoodInHeld24, Tryz.eqGuardType24, by intro fs h; cases h; decide⟩)⟩
theorem ti25_ok : TOk Tryz.prog 25 ti25 := ⟨Tryz.underlying25, Tryz.isAgg25, Tryz.sizeOf25, Tryz.zeroValue25, ⟨Tryz.t25, Tryz.typeInfo25, rfl⟩, (fun _ => ⟨Tryz.stoodInHeld25, Tryz.eqGuardType25, by intro fs h; cases h; decide⟩)⟩
theorem ti26_ok : TOk Tryz.prog 26 ti26 := ⟨Tryz.underlying26, Tryz.isAgg26, Tryz.sizeOf26, Tryz.zeroValue26, ⟨Tryz.t26, Tryz.typeInfo26, rfl⟩, (fun _ => ⟨Tryz.stoodInHeld26, Tryz.eqGuardType26, by intro fs h; cases h; decide⟩)⟩
theorem ti27_ok : TOk Tryz.prog 27 ti27 := ⟨Tryz.underlying27, Tryz.isAgg27, Tryz.sizeOf27, Tryz.zeroValue27, ⟨Tryz.t27, Tryz.typeInfo27, rfl⟩, (fun _ => ⟨Tryz.stoodInHeld27, Tryz.eqGuardType27, by intro fs h; cases h; decide⟩)⟩
theorem ti28_ok : TOk Tryz.prog 28 ti28 := ⟨Tryz.underlying28, Tryz.isAgg28, Tryz.sizeOf28, Tryz.zeroValue28, ⟨Tryz.t28, Tryz.typeInfo28, rfl⟩, (fun _ => ⟨Tryz.stoodInHeld28, Tryz.eqGuardType28, by intro fs h; cases h; decide⟩)⟩
theorem ti29_ok : TOk Tryz.prog 29 ti29 := ⟨Tryz.underlying29, Tryz.isAgg29, Tryz.sizeOf29, Tryz.zeroValue29, ⟨Tryz.t29, Tryz.typeInfo29, rfl⟩, (fun _ => ⟨Tryz.stoodInHeld29, Tryz.eqGuardType29, by intro fs h; cases h; decide⟩)⟩
theorem ti30_ok : TOk Tryz.prog 30 ti30 := ⟨Tryz.underlying30, Tryz.isAgg30, Tryz.sizeOf30, Tryz.zeroValue30, ⟨Tryz.t30, Tryz.typeInfo30, rfl⟩, (fun _ => ⟨Tryz.stoodInHeld30, Tryz.eqGuardType30, by intro fs h; cases h; decide⟩)⟩
theorem ti31_ok : TOk Tryz.prog 31 ti31 := ⟨Tryz.underlying31, Tryz.isAgg31, Tryz.sizeOf31, Tryz.zeroValue31, ⟨Tryz.t31, Tryz.typeInfo31, rfl⟩, (fun _ => ⟨Tryz.stoodInHeld31, Tryz.eqGuardType31, by intro fs h; cases h; decide⟩)⟩
theorem ti32_ok : TOk Tryz.prog 32 ti32 := ⟨Tryz.underlying32, Tryz.isAgg32, Tryz.sizeOf32, Tryz.zeroValue32, ⟨Tryz.t32, Tryz.typeInfo32, rfl⟩, (fun _ => ⟨Tryz.stoodInHeld32, Tryz.eqGuardType32, by intro fs h; cases h; decide⟩)⟩
theorem ti33_ok : TOk Tryz.prog 33 ti33 := ⟨Tryz.underlying33, Tryz.isAgg33, Tryz.sizeOf33, Tryz.zeroValue33, ⟨Tryz.t33, Tryz.typeInfo33, rfl⟩, (fun h => by cases h)⟩
theorem ti34_ok : TOk Tryz.prog 34 ti34 := ⟨Tryz.underlying34, Tryz.isAgg34, Tryz.sizeOf34, Tryz.zeroValue34, ⟨Tryz.t34, Tryz.typeInfo34, rfl⟩, (fun h => by cases h)⟩
theorem ti35_ok : TOk Tryz.prog 35 ti35 := ⟨Tryz.underlying35, Tryz.isAgg35, Tryz.sizeOf35, Tryz.zeroValue35, ⟨Tryz.t35, Tryz.typeInfo35, rfl⟩, (fun h => by cases h)⟩
theorem ti36_ok : TOk Tryz.prog 36 ti36 := ⟨Tryz.underlying36, Tryz.isAgg36, Tryz.sizeOf36, Tryz.zeroValue36, ⟨Tryz.t36, Tryz.typeInfo36, rfl⟩, (fun h => by cases h)⟩
theorem ti37_ok : TOk Tryz.prog 37 ti37 := ⟨Tryz.underlying37, Tryz.isAgg37, Tryz.sizeOf37, Tryz.zeroValue37, ⟨Tryz.t37, Tryz.typeInfo37, rfl⟩, (fun h => by cases h)⟩
theorem ti38_ok : TOk Tryz.prog 38 ti38 := ⟨Tryz.underlying38, Tryz.isAgg38, Tryz.sizeOf38, Tryz.zeroValue38, ⟨Tryz.t38, Tryz.typeInfo38, rfl⟩, (fun h => by cases h)⟩
theorem ti39_ok : TOk Tryz.prog 39 ti39 := ⟨Tryz.underlying39, Tryz.isAgg39, Tryz.sizeOf39, Tryz.zeroValue39, ⟨Tryz.t39, Tryz.typeInfo39, rfl⟩, (fun h => by cases h)⟩
theorem ti40_ok : TOk Tryz.prog 40 ti40 := ⟨Tryz.underlying40, Tryz.isAgg40, Tryz.sizeOf40, Tryz.zeroValue40, ⟨Tryz.t40, Tryz.typeInfo40, rfl⟩, (fun h => by cases h)⟩
theorem ti41_ok : TOk Tryz.prog 41 ti41 := ⟨Tryz.underlying41, Tryz.isAgg41, Tryz.sizeOf41, Tryz.zeroValue41, ⟨Tryz.t41, Tryz.typeInfo41, rfl⟩, (fun h => by cases h)⟩
theorem ti42_ok : TOk Tryz.prog 42 ti42 := ⟨Tryz.underlying42, Tryz.isAgg42, Tryz.sizeOf42, Tryz.zeroValue42, ⟨Tryz.t42, Tryz.typeInfo42, rfl⟩, (fun h => by cases h)⟩
theorem ti43_ok : TOk Tryz.prog 43 ti43 := ⟨Tryz.underlying43, Tryz.isAgg43, Tryz.sizeOf43, Tryz.zeroValue43, ⟨Tryz.t43, Tryz.typeInfo43, rfl⟩, (fun h => by cases h)⟩
theorem ti44_ok : TOk Tryz.prog 44 ti44 := ⟨Tryz.underlying44, Tryz.isAgg44, Tryz.sizeOf44, Tryz.zeroValue44, ⟨Tryz.t44, Tryz.typeInfo44, rfl⟩, (fun h => by cases h)⟩
theorem ti45_ok : TOk Tryz.prog 45 ti45 := ⟨Tryz.underlying45, Tryz.isAgg45, Tryz.sizeOf45, Tryz.zeroValue45, ⟨Tryz.t45, Tryz.typeInfo45, rfl⟩, (fun h => by cases h)⟩
theorem ti46_ok : TOk Tryz.prog 46 ti46 := ⟨Tryz.underlying46, Tryz.isAgg46, Tryz.sizeOf46, Tryz.zeroValue46, ⟨Tryz.t46, Tryz.typeInfo46, rfl⟩, (fun h => by cases h)⟩
theorem ti47_ok : TOk Tryz.prog 47 ti47 := ⟨Tryz.underlying47, Tryz.isAgg47, Tryz.sizeOf47, Tryz.zeroValue47, ⟨Tryz.t47, Tryz.typeInfo47, rfl⟩, (fun h => by cases h)⟩
theorem ti48_ok : TOk Tryz.prog 48 ti48 := ⟨Tryz.underlying48, Tryz.isAgg48, Tryz.sizeOf48, Tryz.zeroValue48, ⟨Tryz.t48, Tryz.typeInfo48, rfl⟩, (fun h => by cases h)⟩
theorem ti49_ok : TOk Tryz.prog 49 ti49 := ⟨Tryz.underlying49, Tryz.isAgg49, Tryz.sizeOf49, Tryz.zeroValue49, ⟨Tryz.t49, Tryz.typeInfo49, rfl⟩, (fun h => by cases h)⟩
theorem ti50_ok : TOk Tryz.prog 50 ti50 := ⟨Tryz.underlying50, Tryz.isAgg50, Tryz.sizeOf50, Tryz.zeroValue50, ⟨Tryz.t50, Tryz.typeInfo50, rfl⟩, (fun h => by cases h)⟩
theorem ti51_ok : TOk Tryz.prog 51 ti51 := ⟨Tryz.underlying51, Tryz.isAgg51, Tryz.sizeOf51, Tryz.zeroValue51, ⟨Tryz.t51, Tryz.typeInfo51, rfl⟩, (fun h => by cases h)⟩
theorem ti52_ok : TOk Tryz.prog 52 ti52 := ⟨Tryz.underlying52, Tryz.isAgg52, Tryz.sizeOf52, Tryz.zeroValue52, ⟨Tryz.t52, Tryz.typeInfo52, rfl⟩, (fun h => by cases h)⟩
theorem ti53_ok : TOk Tryz.prog 53 ti53 := ⟨Tryz.underlying53, Tryz.isAgg53, Tryz.sizeOf53, Tryz.zeroValue53, ⟨Tryz.t53, Tryz.typeInfo53, rfl⟩, (fun h => by cases h)⟩
theorem ti54_ok : TOk Tryz.prog 54 ti54 := ⟨Tryz.underlying54, Tryz.isAgg54, Tryz.sizeOf54, Tryz.zeroValue54, ⟨Tryz.t54, Tryz.typeInfo54, rfl⟩, (fun h => by cases h)⟩
theorem ti55_ok : TOk Tryz.prog 55 ti55 := ⟨Tryz.underlying55, Tryz.isAgg55, Tryz.sizeOf55, Tryz.zeroValue55, ⟨Tryz.t55, Tryz.typeInfo55, rfl⟩, (fun h => by cases h)⟩
theorem ti56_ok : TOk Tryz.prog 56 ti56 := ⟨Tryz.underlying56, Tryz.isAgg56, Tryz.sizeOf56, Tryz.zeroValue56, ⟨Tryz.t56, Tryz.typeInfo56, rfl⟩, (fun h => by cases h)⟩
theorem ti57_ok : TOk Tryz.prog 57 ti57 := ⟨Tryz.underlying57, Tryz.isAgg57, Tryz.sizeOf57, Tryz.zeroValue57, ⟨Tryz.t57, Tryz.typeInfo57, rfl⟩, (fun _ => ⟨Tryz.stoodInHeld57, Tryz.eqGuardType57, by intro fs h; cases h; decide⟩)⟩
theorem ti58_ok : TOk Tryz.prog 58 ti58 := ⟨Tryz.underlying58, Tryz.isAgg58, Tryz.sizeOf58, Tryz.zeroValue58, ⟨Tryz.t58, Tryz.typeInfo58, rfl⟩, (fun _ => ⟨Tryz.stoodInHeld58, Tryz.eqGuardType58, by intro fs h; cases h; decide⟩)⟩
theorem ti59_ok : TOk Tryz.prog 59 ti59 := ⟨Tryz.underlying59, Tryz.isAgg59, Tryz.sizeOf59, Tryz.zeroValue59, ⟨Tryz.t59, Tryz.typeInfo59, rfl⟩, (fun h => by cases h)⟩
theorem ti60_ok : TOk Tryz.prog 60 ti60 := ⟨Tryz.underlying60, Tryz.isAgg60, Tryz.sizeOf60, Tryz.zeroValue60, ⟨Tryz.t60, Tryz.typeInfo60, rfl⟩, (fun h => by cases h)⟩
theorem ti61_ok : TOk Tryz.prog 61 ti61 := ⟨Tryz.underlying61, Tryz.isAgg61, Tryz.sizeOf61, Tryz.zeroValue61, ⟨Tryz.t61, Tryz.typeInfo61, rfl⟩, (fun h => by cases h)⟩
theorem ti62_ok : TOk Tryz.prog 62 ti62 := ⟨Tryz.underlying62, Tryz.isAgg62, Tryz.sizeOf62, Tryz.zeroValue62, ⟨Tryz.t62, Tryz.typeInfo62, rfl⟩, (fun h => by cases h)⟩
theorem ti63_ok : TOk Tryz.prog 63 ti63 := ⟨Tryz.underlying63, Tryz.isAgg63, Tryz.sizeOf63, Tryz.zeroValue63, ⟨Tryz.t63, Tryz.typeInfo63, rfl⟩, (fun h => by cases h)⟩
theorem ti64_ok : TOk Tryz.prog 64 ti64 := ⟨Tryz.underlying64, Tryz.isAgg64, Tryz.sizeOf64, Tryz.zeroValue64, ⟨Tryz.t64, Tryz.typeInfo64, rfl⟩, (fun h => by cases h)⟩
theorem ti65_ok : TOk Tryz.prog 65 ti65 := ⟨Tryz.underlying65, Tryz.isAgg65, Tryz.sizeOf65, Tryz.zeroValue65, ⟨Tryz.t65, Tryz.typeInfo65, rfl⟩, (fun h => by cases h)⟩
theorem ti66_ok : TOk Tryz.prog 66 ti66 := ⟨Tryz.underlying66, Tryz.isAgg66, Tryz.sizeOf66, Tryz.zeroValue66, ⟨Tryz.t66, Tryz.typeInfo66, rfl⟩, (fun h => by cases h)⟩
theorem ti67_ok : TOk Tryz.prog 67 ti67 := ⟨Tryz.underlying67, Tryz.isAgg67, Tryz.sizeOf67, Tryz.zeroValue67, ⟨Tryz.t67, Tryz.typeInfo67, rfl⟩, (fun h => by cases h)⟩
theorem ti68_ok : TOk Tryz.prog 68 ti68 := ⟨Tryz.underlying68, Tryz.isAgg68, Tryz.sizeOf68, Tryz.zeroValue68, ⟨Tryz.t68, Tryz.typeInfo68, rfl⟩, (fun h => by cases h)⟩
theorem ti69_ok : TOk Tryz.prog 69 ti69 := ⟨Tryz.underlying69, Tryz.isAgg69, Tryz.sizeOf69, Tryz.zeroValue69, ⟨Tryz.t69, Tryz.typeInfo69, rfl⟩, (fun h => by cases h)⟩
theorem ti70_ok : TOk Tryz.prog 70 ti70 := ⟨Tryz.underlying70, Tryz.isAgg70, Tryz.sizeOf70, Tryz.zeroValue70, ⟨Tryz.t70, Tryz.typeInfo70, rfl⟩, (fun h => by cases h)⟩
theorem ti71_ok : TOk Tryz.prog 71 ti71 := ⟨Tryz.underlying71, Tryz.isAgg71, Tryz.sizeOf71, Tryz.zeroValue71, ⟨Tryz.t71, Tryz.typeInfo71, rfl⟩, (fun h => by cases h)⟩
theorem ti72_ok : TOk Tryz.prog 72 ti72 := ⟨Tryz.underlying72, Tryz.isAgg72, Tryz.sizeOf72, Tryz.zeroValue72, ⟨Tryz.t72, Tryz.typeInfo72, rfl⟩, (fun h => by cases h)⟩
theorem ti73_ok : TOk Tryz.prog 73 ti73 := ⟨Tryz.underlying73, Tryz.isAgg73, Tryz.sizeOf73, Tryz.zeroValue73, ⟨Tryz.t73, Tryz.typeInfo73, rfl⟩, (fun h => by cases h)⟩
theorem ti74_ok : TOk Tryz.prog 74 ti74 := ⟨Tryz.underlying74, Tryz.isAgg74, Tryz.sizeOf74, Tryz.zeroValue74, ⟨Tryz.t74, Tryz.typeInfo74, rfl⟩, (fun h => by cases h)⟩
theorem ti75_ok : TOk Tryz.prog 75 ti75 := ⟨Tryz.underlying75, Tryz.isAgg75, Tryz.sizeOf75, Tryz.zeroValue75, ⟨Tryz.t75, Tryz.typeInfo75, rfl⟩, (fun h => by cases h)⟩
theorem ti76_ok : TOk Tryz.prog 76 ti76 := ⟨Tryz.underlying76, Tryz.isAgg76, Tryz.sizeOf76, Tryz.zeroValue76, ⟨Tryz.t76, Tryz.typeInfo76, rfl⟩, (fun h => by cases h)⟩
theorem ti77_ok : TOk Tryz.prog 77 ti77 := ⟨Tryz.underlying77, Tryz.isAgg77, Tryz.sizeOf77, Tryz.zeroValue77, ⟨Tryz.t77, Tryz.typeInfo77, rfl⟩, (fun h => by cases h)⟩
theorem ti78_ok : TOk Tryz.prog 78 ti78 := ⟨Tryz.underlying78, Tryz.isAgg78, Tryz.sizeOf78, Tryz.zeroValue78, ⟨Tryz.t78, Tryz.typeInfo78, rfl⟩, (fun h => by cases h)⟩
theorem ti79_ok : TOk Tryz.prog 79 ti79 := ⟨Tryz.underlying79, Tryz.isAgg79, Tryz.sizeOf79, Tryz.zeroValue79, ⟨Tryz.t79, Tryz.typeInfo79, rfl⟩, (fun h => by cases h)⟩
theorem ti80_ok : TOk Tryz.prog 80 ti80 := ⟨Tryz.underlying80, Tryz.isAgg80, Tryz.sizeOf80, Tryz.zeroValue80, ⟨Tryz.t80, Tryz.typeInfo80, rfl⟩, (fun h => by cases h)⟩
theorem ti81_ok : TOk Tryz.prog 81 ti81 := ⟨Tryz.underlying81, Tryz.isAgg81, Tryz.sizeOf81, Tryz.zeroValue81, ⟨Tryz.t81, Tryz.typeInfo81, rfl⟩, (fun _ => ⟨Tryz.stoodInHeld81, Tryz.eqGuardType81, by intro fs h; cases h; decide⟩)⟩
theorem ti82_ok : TOk Tryz.prog 82 ti82 := ⟨Tryz.underlying82, Tryz.isAgg82, Tryz.sizeOf82, Tryz.zeroValue82, ⟨Tryz.t82, Tryz.typeInfo82, rfl⟩, (fun _ => ⟨Tryz.stoodInHeld82, Tryz.eqGuardType82, by intro fs h; cases h; decide⟩)⟩
theorem ti83_ok : TOk Tryz.prog 83 ti83 := ⟨Tryz.underlying83, Tryz.isAgg83, Tryz.sizeOf83, Tryz.zeroValue83, ⟨Tryz.t83, Tryz.typeInfo83, rfl⟩, (fun h => by cases h)⟩
theorem ti84_ok : TOk Tryz.prog 84 ti84 := ⟨Tryz.underlying84, Tryz.isAgg84, Tryz.sizeOf84, Tryz.zeroValue84, ⟨Tryz.t84, Tryz.typeInfo84, rfl⟩, (fun h => by cases h)⟩
theorem ti85_ok : TOk Tryz.prog 85 ti85 := ⟨Tryz.underlying85, Tryz.isAgg85, Tryz.sizeOf85, Tryz.zeroValue85, ⟨Tryz.t85, Tryz.typeInfo85, rfl⟩, (fun h => by cases h)⟩
theorem ti86_ok : TOk Tryz.prog 86 ti86 := ⟨Tryz.underlying86, Tryz.isAgg86, Tryz.sizeOf86, Tryz.zeroValue86, ⟨Tryz.t86, Tryz.typeInfo86, rfl⟩, (fun h => by cases h)⟩
theorem ti87_ok : TOk Tryz.prog 87 ti87 := ⟨Tryz.underlying87, Tryz.isAgg87, Tryz.sizeOf87, Tryz.zeroValue87, ⟨Tryz.t87, Tryz.typeInfo87, rfl⟩, (fun h => by cases h)⟩
theorem ti88_ok : TOk Tryz.prog 88 ti88 := ⟨Tryz.underlying88, Tryz.isAgg88, Tryz.sizeOf88, Tryz.zeroValue88, ⟨Tryz.t88, Tryz.typeInfo88, rfl⟩, (fun h => by cases h)⟩
theorem ti89_ok : TOk Tryz.prog 89 ti89 := ⟨Tryz.underlying89, Tryz.isAgg89, Tryz.sizeOf89, Tryz.zeroValue89, ⟨Tryz.t89, Tryz.typeInfo89, rfl⟩, (fun h => by cases h)⟩
theorem ti90_ok : TOk Tryz.prog 90 ti90 := ⟨Tryz.underlying90, Tryz.isAgg90, Tryz.sizeOf90, Tryz.zeroValue90, ⟨Tryz.t90, Tryz.typeInfo90, rfl⟩, (fun h => by cases h)⟩
theorem ti91_ok : TOk Tryz.prog 91 ti91 := ⟨Tryz.underlying91, Tryz.isAgg91, Tryz.sizeOf91, Tryz.zeroValue91, ⟨Tryz.t91, Tryz.typeInfo91, rfl⟩, (fun h => by cases h)⟩
theorem ti92_ok : TOk Tryz.prog 92 ti92 := ⟨Tryz.underlying92, Tryz.isAgg92, Tryz.sizeOf92, Tryz.zeroValue92, ⟨Tryz.t92, Tryz.typeInfo92, rfl⟩, (fun h => by cases h)⟩
theorem ti93_ok : TOk Tryz.prog 93 ti93 := ⟨Tryz.underlying93, Tryz.isAgg93, Tryz.sizeOf93, Tryz.zeroValue93, ⟨Tryz.t93, Tryz.typeInfo93, rfl⟩, (fun h => by cases h)⟩
theorem ti94_ok : TOk Tryz.prog 94 ti94 := ⟨Tryz.underlying94, Tryz.isAgg94, Tryz.sizeOf94, Tryz.zeroValue94, ⟨Tryz.t94, Tryz.typeInfo94, rfl⟩, (fun h => by cases h)⟩
theorem ti95_ok : TOk Tryz.prog 95 ti95 := ⟨Tryz.underlying95, Tryz.isAgg95, Tryz.sizeOf95, Tryz.zeroValue95, ⟨Tryz.t95, Tryz.typeInfo95, rfl⟩, (fun h => by cases h)⟩
theorem ti96_ok : TOk Tryz.prog 96 ti96 := ⟨Tryz.underlying96, Tryz.isAgg96, Tryz.sizeOf96, Tryz.zeroValue96, ⟨Tryz.t96, Tryz.typeInfo96, rfl⟩, (fun h => by cases h)⟩
theorem ti97_ok : TOk Tryz.prog 97 ti97 := ⟨Tryz.underlying97, Tryz.isAgg97, Tryz.sizeOf97, Tryz.zeroValue97, ⟨Tryz.t97, Tryz.typeInfo97, rfl⟩, (fun h => by cases h)⟩
theorem ti98_ok : TOk Tryz.prog 98 ti98 := ⟨Tryz.underlying98, Tryz.isAgg98, Tryz.sizeOf98, Tryz.zeroValue98, ⟨Tryz.t98, Tryz.typeInfo98, rfl⟩, (fun h => by cases h)⟩
theorem ti99_ok : TOk Tryz.prog 99 ti99 := ⟨Tryz.underlying99, Tryz.isAgg99, Tryz.sizeOf99, Tryz.zeroValue99, ⟨Tryz.t99, Tryz.typeInfo99, rfl⟩, (fun h => by cases h)⟩
theorem ti100_ok : TOk Tryz.prog 100 ti100 := ⟨Tryz.underlying100, Tryz.isAgg100, Tryz.sizeOf100, Tryz.zeroValue100, ⟨Tryz.t100, Tryz.typeInfo100, rfl⟩, (fun h => by cases h)⟩
theorem ti101_ok : TOk Tryz.prog 101 ti101 := ⟨Tryz.underlying101, Tryz.isAgg101, Tryz.sizeOf101, Tryz.zeroValue101, ⟨Tryz.t101, Tryz.typeInfo101, rfl⟩, (fun h => by cases h)⟩
theorem ti102_ok : TOk Tryz.prog 102 ti102 := ⟨Tryz.underlying102, Tryz.isAgg102, Tryz.sizeOf102, Tryz.zeroValue102, ⟨Tryz.t102, Tryz.typeInfo102, rfl⟩, (fun h => by cases h)⟩
theorem ti103_ok : TOk Tryz.prog 103 ti103 := ⟨Tryz.underlying103, Tryz.isAgg103, Tryz.sizeOf103, Tryz.zeroValue103, ⟨Tryz.t103, Tryz.typeInfo103, rfl⟩, (fun h => by cases h)⟩
theorem ti104_ok : TOk Tryz.prog 104 ti104 := ⟨Tryz.underlying104, Tryz.isAgg104, Tryz.sizeOf104, Tryz.zeroValue104, ⟨Tryz.t104, Tryz.typeInfo104, rfl⟩, (fun h => by cases h)⟩
theorem ti105_ok : TOk Tryz.prog 105 ti105 := ⟨Tryz.underlying105, Tryz.isAgg105, Tryz.sizeOf105, Tryz.zeroValue105, ⟨Tryz.t105, Tryz.typeInfo105, rfl⟩, (fun h => by cases h)⟩
theorem ti106_ok : TOk Tryz.prog 106 ti106 := ⟨Tryz.underlying106, Tryz.isAgg106, Tryz.sizeOf106, Tryz.zeroValue106, ⟨Tryz.t106, Tryz.typeInfo106, rfl⟩, (fun h => by cases h)⟩
theorem ti107_ok : TOk Tryz.prog 107 ti107 := ⟨Tryz.underlying107, Tryz.isAgg107, Tryz.sizeOf107, Tryz.zeroValue107, ⟨Tryz.t107, Tryz.typeInfo107, rfl⟩, (fun h => by cases h)⟩
theorem ti108_ok : TOk Tryz.prog 108 ti108 := ⟨Tryz.underlying108, Tryz.isAgg108, Tryz.sizeOf108, Tryz.zeroValue108, ⟨Tryz.t108, Tryz.typeInfo108, rfl⟩, (fun h => by cases h)⟩
theorem ti109_ok : TOk Tryz.prog 109 ti109 := ⟨Tryz.underlying109, Tryz.isAgg109, Tryz.sizeOf109, Tryz.zeroValue109, ⟨Tryz.t109, Tryz.typeInfo109, rfl⟩, (fun h => by cases h)⟩
theorem ti110_ok : TOk Tryz.prog 110 ti110 := ⟨Tryz.underlying110, Tryz.isAgg110, Tryz.sizeOf110, Tryz.zeroValue110, ⟨Tryz.t110, Tryz.typeInfo110, rfl⟩, (fun h => by cases h)⟩
theorem ti111_ok : TOk Tryz.prog 111 ti111 := ⟨Tryz.underlying111, Tryz.isAgg111, Tryz.sizeOf111, Tryz.zeroValue111, ⟨Tryz.t111, Tryz.typeInfo111, rfl⟩, (fun h => by cases h)⟩
theorem ti112_ok : TOk Tryz.prog 112 ti112 := ⟨Tryz.underlying112, Tryz.isAgg112, Tryz.sizeOf112, Tryz.zeroValue112, ⟨Tryz.t112, Tryz.typeInfo112, rfl⟩, (fun h => by cases h)⟩
theorem ti113_ok : TOk Tryz.prog 113 ti113 := ⟨Tryz.underlying113, Tryz.isAgg113, Tryz.sizeOf113, Tryz.zeroValue113, ⟨Tryz.t113, Tryz.typeInfo113, rfl⟩, (fun h => by cases h)⟩
theorem ti114_ok : TOk Tryz.prog 114 ti114 := ⟨Tryz.underlying114, Tryz.isAgg114, Tryz.sizeOf114, Tryz.zeroValue114, ⟨Tryz.t114, Tryz.typeInfo114, rfl⟩, (fun h => by cases h)⟩
theorem ti115_ok : TOk Tryz.prog 115 ti115 := ⟨Tryz.underlying115, Tryz.isAgg115, Tryz.sizeOf115, Tryz.zeroValue115, ⟨Tryz.t115, Tryz.typeInfo115, rfl⟩, (fun h => by cases h)⟩
theorem ti116_ok : TOk Tryz.prog 116 ti116 := ⟨Tryz.underlying116, Tryz.isAgg116, Tryz.sizeOf116, Tryz.zeroValue116, ⟨Tryz.t116, Tryz.typeInfo116, rfl⟩, (fun h => by cases h)⟩
theorem ti117_ok : TOk Tryz.prog 117 ti117 := ⟨Tryz.underlying117, Tryz.isAgg117, Tryz.sizeOf117, Tryz.zeroValue117, ⟨Tryz.t117, Tryz.typeInfo117, rfl⟩, (fun h => by cases h)⟩
theorem ti118_ok : TOk Tryz.prog 118 ti118 := ⟨Tryz.underlying118, Tryz.isAgg118, Tryz.sizeOf118, Tryz.zeroValue118, ⟨Tryz.t118, Tryz.typeInfo118, rfl⟩, (fun h => by cases h)⟩
theorem ti119_ok : TOk Tryz.prog 119 ti119 := ⟨Tryz.underlying119, Tryz.isAgg119, Tryz.sizeOf119, Tryz.zeroValue119, ⟨Tryz.t119, Tryz.typeInfo119, rfl⟩, (fun h => by cases h)⟩
theorem ti120_ok : TOk Tryz.prog 120 ti120 := ⟨Tryz.underlying120, Tryz.isAgg120, Tryz.sizeOf120, Tryz.zeroValue120, ⟨Tryz.t120, Tryz.typeInfo120, rfl⟩, (fun h => by cases h)⟩
theorem ti121_ok : TOk Tryz.prog 121 ti121 := ⟨Tryz.underlying121, Tryz.isAgg121, Tryz.sizeOf121, Tryz.zeroValue121, ⟨Tryz.t121, Tryz.typeInfo121, rfl⟩, (fun h => by cases h)⟩
theorem ti122_ok : TOk Tryz.prog 122 ti122 := ⟨Tryz.underlying122, Tryz.isAgg122, Tryz.sizeOf122, Tryz.zeroValue122, ⟨Tryz.t122, Tryz.typeInfo122, rfl⟩, (fun h => by cases h)⟩
theorem ti123_ok : TOk Tryz.prog 123 ti123 := ⟨Tryz.underlying123, Tryz.isAgg123, Tryz.sizeOf123, Tryz.zeroValue123, ⟨Tryz.t123, Tryz.typeInfo123, rfl⟩, (fun h => by cases h)⟩
theorem ti124_ok : TOk Tryz.prog 124 ti124 := ⟨Tryz.underlying124, Tryz.isAgg124, Tryz.sizeOf124, Tryz.zeroValue124, ⟨Tryz.t124, Tryz.typeInfo124, rfl⟩, (fun h => by cases h)⟩
theorem ti125_ok : TOk Tryz.prog 125 ti125 := ⟨Tryz.underlying125, Tryz.isAgg125, Tryz.sizeOf125, Tryz.zeroValue125, ⟨Tryz.t125, Tryz.typeInfo125, rfl⟩, (fun h => by cases h)⟩
theorem ti126_ok : TOk Tryz.prog 126 ti126 := ⟨Tryz.underlying126, Tryz.isAgg126, Tryz.sizeOf126, Tryz.zeroValue126, ⟨Tryz.t126, Tryz.typeInfo126, rfl⟩, (fun h => by cases h)⟩
theorem ti127_ok : TOk Tryz.prog 127 ti127 := ⟨Tryz.underlying127, Tryz.isAgg127, Tryz.sizeOf127, Tryz.zeroValue127, ⟨Tryz.t127, Tryz.typeInfo127, rfl⟩, (fun h => by cases h)⟩
theorem ti128_ok : TOk Tryz.prog 128 ti128 := ⟨Tryz.underlying128, Tryz.isAgg128, Tryz.sizeOf128, Tryz.zeroValue128, ⟨Tryz.t128, Tryz.typeInfo128, rfl⟩, (fun h => by cases h)⟩
theorem ti129_ok : TOk Tryz.prog 129 ti129 := ⟨Tryz.underlying129, Tryz.isAgg129, Tryz.sizeOf129, Tryz.zeroValue129, ⟨Tryz.t129, Tryz.typeInfo129, rfl⟩, (fun h => by cases h)⟩
theorem ti130_ok : TOk Tryz.prog 130 ti130 := ⟨Tryz.underlying130, Tryz.isAgg130, Tryz.sizeOf130, Tryz.zeroValue130, ⟨Tryz.t130, Tryz.typeInfo130, rfl⟩, (fun h => by cases h)⟩
theorem ti131_ok : TOk Tryz.prog 131 ti131 := ⟨Tryz.underlying131, Tryz.isAgg131, Tryz.sizeOf131, Tryz.zeroValue131, ⟨Tryz.t131, Tryz.typeInfo131, rfl⟩, (fun h => by cases h)⟩
theorem ti132_ok : TOk Tryz.prog 132 ti132 := ⟨Tryz.underlying132, Tryz.isAgg132, Tryz.sizeOf132, Tryz.zeroValue132, ⟨Tryz.t132, Tryz.typeInfo132, rfl⟩, (fun h => by cases h)⟩
theorem ti133_ok : TOk Tryz.prog 133 ti133 := ⟨Tryz.underlying133, Tryz.isAgg133, Tryz.sizeOf133, Tryz.zeroValue133, ⟨Tryz.t133, Tryz.typeInfo133, rfl⟩, (fun h => by cases h)⟩
theorem ti134_ok : TOk Tryz.prog 134 ti134 := ⟨Tryz.underlying134, Tryz.isAgg134, Tryz.sizeOf134, Tryz.zeroValue134, ⟨Tryz.t134, Tryz.typeInfo134, rfl⟩, (fun h => by cases h)⟩
theorem ti135_ok : TOk Tryz.prog 135 ti135 := ⟨Tryz.underlying135, Tryz.isAgg135, Tryz.sizeOf135, Tryz.zeroValue135, ⟨Tryz.t135, Tryz.typeInfo135, rfl⟩, (fun h => by cases h)⟩
theorem ti136_ok : TOk Tryz.prog 136 ti136 := ⟨Tryz.underlying136, Tryz.isAgg136, Tryz.sizeOf136, Tryz.zeroValue136, ⟨Tryz.t136, Tryz.typeInfo136, rfl⟩, (fun h => by cases h)⟩
theorem ti137_ok : TOk Tryz.prog 137 ti137 := ⟨Tryz.underlying137, Tryz.isAgg137, Tryz.sizeOf137, Tryz.zeroValue137, ⟨Tryz.t137, Tryz.typeInfo137, rfl⟩, (fun h => by cases h)⟩
theorem ti138_ok : TOk Tryz.prog 138 ti138 := ⟨Tryz.underlying138, Tryz.isAgg138, Tryz.sizeOf138, Tryz.zeroValue138, ⟨Tryz.t138, Tryz.typeInfo138, rfl⟩, (fun h => by cases h)⟩
theorem ti139_ok : TOk Tryz.prog 139 ti139 := ⟨Tryz.underlying139, Tryz.isAgg139, Tryz.sizeOf139, Tryz.zeroValue139, ⟨Tryz.t139, Tryz.typeInfo139, rfl⟩, (fun h => by cases h)⟩
theorem ti140_ok : TOk Tryz.prog 140 ti140 := ⟨Tryz.underlying140, Tryz.isAgg140, Tryz.sizeOf140, Tryz.zeroValue140, ⟨Tryz.t140, Tryz.typeInfo140, rfl⟩, (fun h => by cases h)⟩
theorem ti141_ok : TOk Tryz.prog 141 ti141 := ⟨Tryz.underlying141, Tryz.isAgg141, Tryz.sizeOf141, Tryz.zeroValue141, ⟨Tryz.t141, Tryz.typeInfo141, rfl⟩, (fun h => by cases h)⟩
theorem ti142_ok : TOk Tryz.prog 142 ti142 := ⟨Tryz.underlying142, Tryz.isAgg142, Tryz.sizeOf142, Tryz.zeroValue142, ⟨Tryz.t142, Tryz.typeInfo142, rfl⟩, (fun h => by cases h)⟩
theorem ti143_ok : TOk Tryz.prog 143 ti143 := ⟨Tryz.underlying143, Tryz.isAgg143, Tryz.sizeOf143, Tryz.zeroValue143, ⟨Tryz.t143, Tryz.typeInfo143, rfl⟩, (fun h => by cases h)⟩
theorem ti144_ok : TOk Tryz.prog 144 ti144 := ⟨Tryz.underlying144, Tryz.isAgg144, Tryz.sizeOf144, Tryz.zeroValue144, ⟨Tryz.t144, Tryz.typeInfo144, rfl⟩, (fun h => by cases h)⟩
theorem ti145_ok : TOk Tryz.prog 145 ti145 := ⟨Tryz.underlying145, Tryz.isAgg145, Tryz.sizeOf145, Tryz.zeroValue145, ⟨Tryz.t145, Tryz.typeInfo145, rfl⟩, (fun h => by cases h)⟩
theorem ti146_ok : TOk Tryz.prog 146 ti146 := ⟨Tryz.underlying146, Tryz.isAgg146, Tryz.sizeOf146, Tryz.zeroValue146, ⟨Tryz.t146, Tryz.typeInfo146, rfl⟩, (fun h => by cases h)⟩
theorem ti147_ok : TOk Tryz.prog 147 ti147 := ⟨Tryz.underlying147, Tryz.isAgg147, Tryz.sizeOf147, Tryz.zeroValue147, ⟨Tryz.t147, Tryz.typeInfo147, rfl⟩, (fun h => by cases h)⟩
theorem ti148_ok : TOk Tryz.prog 148 ti148 := ⟨Tryz.underlying148, Tryz.isAgg148, Tryz.sizeOf148, Tryz.zeroValue148, ⟨Tryz.t148, Tryz.typeInfo148, rfl⟩, (fun h => by cases h)⟩
theorem ti149_ok : TOk Tryz.prog 149 ti149 := ⟨Tryz.underlying149, Tryz.isAgg149, Tryz.sizeOf149, Tryz.zeroValue149, ⟨Tryz.t149, Tryz.typeInfo149, rfl⟩, (fun h => by cases h)⟩
theorem ti150_ok : TOk Tryz.prog 150 ti150 := ⟨Tryz.underlying150, Tryz.isAgg150, Tryz.sizeOf150, Tryz.zeroValue150, ⟨Tryz.t150, Tryz.typeInfo150, rfl⟩, (fun h => by cases h)⟩
theorem ti151_ok : TOk Tryz.prog 151 ti151 := ⟨Tryz.underlying151, Tryz.isAgg151, Tryz.sizeOf151, Tryz.zeroValue151, ⟨Tryz.t151, Tryz.typeInfo151, rfl⟩, (fun h => by cases h)⟩
theorem ti152_ok : TOk Tryz.prog 152 ti152 := ⟨Tryz.underlying152, Tryz.isAgg152, Tryz.sizeOf152, Tryz.zeroValue152, ⟨Tryz.t152, Tryz.typeInfo152, rfl⟩, (fun h => by cases h)⟩
theorem ti153_ok : TOk Tryz.prog 153 ti153 := ⟨Tryz.underlying153, Tryz.isAgg153, Tryz.sizeOf153, Tryz.zeroValue153, ⟨Tryz.t153, Tryz.typeInfo153, rfl⟩, (fun h => by cases h)⟩
theorem ti154_ok : TOk Tryz.prog 154 ti154 := ⟨Tryz.underlying154, Tryz.isAgg154, Tryz.sizeOf154, Tryz.zeroValue154, ⟨Tryz.t154, Tryz.typeInfo154, rfl⟩, (fun _ => ⟨Tryz.stoodInHeld154, Tryz.eqGuardType154, by intro fs h; cases h; decide⟩)⟩
theorem ti155_ok : TOk Tryz.prog 155 ti155 := ⟨Tryz.underlying155, Tryz.isAgg155, Tryz.sizeOf155, Tryz.zeroValue155, ⟨Tryz.t155, Tryz.typeInfo155, rfl⟩, (fun _ => ⟨Tryz.stoodInHeld155, Tryz.eqGuardType155, by intro fs h; cases h; decide⟩)⟩
theorem ti156_ok : TOk Tryz.prog 156 ti156 := ⟨Tryz.underlying156, Tryz.isAgg156, Tryz.sizeOf156, Tryz.zeroValue156, ⟨Tryz.t156, Tryz.typeInfo156, rfl⟩, (fun h => by cases h)⟩
theorem ti157_ok : TOk Tryz.prog 157 ti157 := ⟨Tryz.underlying157, Tryz.isAgg157, Tryz.sizeOf157, Tryz.zeroValue157, ⟨Tryz.t157, Tryz.typeInfo157, rfl⟩, (fun h => by cases h)⟩
theorem ti158_ok : TOk Tryz.prog 158 ti158 := ⟨Tryz.underlying158, Tryz.isAgg158, Tryz.sizeOf158, Tryz.zeroValue158, ⟨Tryz.t158, Tryz.typeInfo158, rfl⟩, (fun h => by cases h)⟩
theorem ti159_ok : TOk Tryz.prog 159 ti159 := ⟨Tryz.underlying159, Tryz.isAgg159, Tryz.sizeOf159, Tryz.zeroValue159, ⟨Tryz.t159, Tryz.typeInfo159, rfl⟩, (fun h => by cases h)⟩
theorem ti160_ok : TOk Tryz.prog 160 ti160 := ⟨Tryz.underlying160, Tryz.isAgg160, Tryz.sizeOf160, Tryz.zeroValue160, ⟨Tryz.t160, Tryz.typeInfo160, rfl⟩, (fun h => by cases h)⟩
theorem ti161_ok : TOk Tryz.prog 161 ti161 := ⟨Tryz.underlying161, Tryz.isAgg161, Tryz.sizeOf161, Tryz.zeroValue161, ⟨Tryz.t161, Tryz.typeInfo161, rfl⟩, (fun h => by cases h)⟩
theorem ti162_ok : TOk Tryz.prog 162 ti162 := ⟨Tryz.underlying162, Tryz.isAgg162, Tryz.sizeOf162, Tryz.zeroValue162, ⟨Tryz.t162, Tryz.typeInfo162, rfl⟩, (fun h => by cases h)⟩
theorem ti163_ok : TOk Tryz.prog 163 ti163 := ⟨Tryz.underlying163, Tryz.isAgg163, Tryz.sizeOf163, Tryz.zeroValue163, ⟨Tryz.t163, Tryz.typeInfo163, rfl⟩, (fun h => by cases h)⟩
theorem ti164_ok : TOk Tryz.prog 164 ti164 := ⟨Tryz.underlying164, Tryz.isAgg164, Tryz.sizeOf164, Tryz.zeroValue164, ⟨Tryz.t164, Tryz.typeInfo164, rfl⟩, (fun h => by cases h)⟩
theorem ti165_ok : TOk Tryz.prog 165 ti165 := ⟨Tryz.underlying165, Tryz.isAgg165, Tryz.sizeOf165, Tryz.zeroValue165, ⟨Tryz.t165, Tryz.typeInfo165, rfl⟩, (fun h => by cases h)⟩
theorem ti166_ok : TOk Tryz.prog 166 ti166 := ⟨Tryz.underlying166, Tryz.isAgg166, Tryz.sizeOf166, Tryz.zeroValue166, ⟨Tryz.t166, Tryz.typeInfo166, rfl⟩, (fun h => by cases h)⟩
theorem ti167_ok : TOk Tryz.prog 167 ti167 := ⟨Tryz.underlying167, Tryz.isAgg167, Tryz.sizeOf167, Tryz.zeroValue167, ⟨Tryz.t167, Tryz.typeInfo167, rfl⟩, (fun h => by cases h)⟩
theorem ti168_ok : TOk Tryz.prog 168 ti168 := ⟨Tryz.underlying168, Tryz.isAgg168, Tryz.sizeOf168, Tryz.zeroValue168, ⟨Tryz.t168, Tryz.typeInfo168, rfl⟩, (fun h => by cases h)⟩
theorem ti169_ok : TOk Tryz.prog 169 ti169 := ⟨Tryz.underlying169, Tryz.isAgg169, Tryz.sizeOf169, Tryz.zeroValue169, ⟨Tryz.t169, Tryz.typeInfo169, rfl⟩, (fun h => by cases h)⟩
theorem ti170_ok : TOk Tryz.prog 170 ti170 := ⟨Tryz.underlying170, Tryz.isAgg170, Tryz.sizeOf170, Tryz.zeroValue170, ⟨Tryz.t170, Tryz.typeInfo170, rfl⟩, (fun h => by cases h)⟩
theorem ti171_ok : TOk Tryz.prog 171 ti171 := ⟨Tryz.underlying171, Tryz.isAgg171, Tryz.sizeOf171, Tryz.zeroValue171, ⟨Tryz.t171, Tryz.typeInfo171, rfl⟩, (fun h => by cases h)⟩
theorem ti172_ok : TOk Tryz.prog 172 ti172 := ⟨Tryz.underlying172, Tryz.isAgg172, Tryz.sizeOf172, Tryz.zeroValue172, ⟨Tryz.t172, Tryz.typeInfo172, rfl⟩, (fun h => by cases h)⟩
theorem ti173_ok : TOk Tryz.prog 173 ti173 := ⟨Tryz.underlying173, Tryz.isAgg173, Tryz.sizeOf173, Tryz.zeroValue173, ⟨Tryz.t173, Tryz.typeInfo173, rfl⟩, (fun h => by cases h)⟩
theorem ti174_ok : TOk Tryz.prog 174 ti174 := ⟨Tryz.underlying174, Tryz.isAgg174, Tryz.sizeOf174, Tryz.zeroValue174, ⟨Tryz.t174, Tryz.typeInfo174, rfl⟩, (fun h => by cases h)⟩
theorem ti175_ok : TOk Tryz.prog 175 ti175 := ⟨Tryz.underlying175, Tryz.isAgg175, Tryz.sizeOf175, Tryz.zeroValue175, ⟨Tryz.t175, Tryz.typeInfo175, rfl⟩, (fun h => by cases h)⟩
theorem ti176_ok : TOk Tryz.prog 176 ti176 := ⟨Tryz.underlying176, Tryz.isAgg176, Tryz.sizeOf176, Tryz.zeroValue176, ⟨Tryz.t176, Tryz.typeInfo176, rfl⟩, (fun h => by cases h)⟩
theorem ti177_ok : TOk Tryz.prog 177 ti177 := ⟨Tryz.underlying177, Tryz.isAgg177, Tryz.sizeOf177, Tryz.zeroValue177, ⟨Tryz.t177, Tryz.typeInfo177, rfl⟩, (fun h => by cases h)⟩
theorem ti178_ok : TOk Tryz.prog 178 ti178 := ⟨Tryz.underlying178, Tryz.isAgg178, Tryz.sizeOf178, Tryz.zeroValue178, ⟨Tryz.t178, Tryz.typeInfo178, rfl⟩, (fun h => by cases h)⟩
theorem ti179_ok : TOk Tryz.prog 179 ti179 := ⟨Tryz.underlying179, Tryz.isAgg179, Tryz.sizeOf179, Tryz.zeroValue179, ⟨Tryz.t179, Tryz.typeInfo179, rfl⟩, (fun h => by cases h)⟩
theorem ti180_ok : TOk Tryz.prog 180 ti180 := ⟨Tryz.underlying180, Tryz.isAgg180, Tryz.sizeOf180, Tryz.zeroValue180, ⟨Tryz.t180, Tryz.typeInfo180, rfl⟩, (fun h => by cases h)⟩
theorem ti181_ok : TOk Tryz.prog 181 ti181 := ⟨Tryz.underlying181, Tryz.isAgg181, Tryz.sizeOf181, Tryz.zeroValue181, ⟨Tryz.t181, Tryz.typeInfo181, rfl⟩, (fun h => by cases h)⟩
theorem ti182_ok : TOk Tryz.prog 182 ti182 := ⟨Tryz.underlying182, Tryz.isAgg182, Tryz.sizeOf182, Tryz.zeroValue182, ⟨Tryz.t182, Tryz.typeInfo182, rfl⟩, (fun h => by cases h)⟩
theorem ti183_ok : TOk Tryz.prog 183 ti183 := ⟨Tryz.underlying183, Tryz.isAgg183, Tryz.sizeOf183, Tryz.zeroValue183, ⟨Tryz.t183, Tryz.typeInfo183, rfl⟩, (fun h => by cases h)⟩
theorem ti184_ok : TOk Tryz.prog 184 ti184 := ⟨Tryz.underlying184, Tryz.isAgg184, Tryz.sizeOf184, Tryz.zeroValue184, ⟨Tryz.t184, Tryz.typeInfo184, rfl⟩, (fun h => by cases h)⟩
theorem ti185_ok : TOk Tryz.prog 185 ti185 := ⟨Tryz.underlying185, Tryz.isAgg185, Tryz.sizeOf185, Tryz.zeroValue185, ⟨Tryz.t185, Tryz.typeInfo185, rfl⟩, (fun h => by cases h)⟩
theorem ti186_ok : TOk Tryz.prog 186 ti186 := ⟨Tryz.underlying186, Tryz.isAgg186, Tryz.sizeOf186, Tryz.zeroValue186, ⟨Tryz.t186, Tryz.typeInfo186, rfl⟩, (fun h => by cases h)⟩
theorem ti187_ok : TOk Tryz.prog 187 ti187 := ⟨Tryz.underlying187, Tryz.isAgg187, Tryz.sizeOf187, Tryz.zeroValue187, ⟨Tryz.t187, Tryz.typeInfo187, rfl⟩, (fun h => by cases h)⟩
theorem ti188_ok : TOk Tryz.prog 188 ti188 := ⟨Tryz.underlying188, Tryz.isAgg188, Tryz.sizeOf188, Tryz.zeroValue188, ⟨Tryz.t188, Tryz.typeInfo188, rfl⟩, (fun h => by cases h)⟩
theorem ti189_ok : TOk Tryz.prog 189 ti189 := ⟨Tryz.underlying189, Tryz.isAgg189, Tryz.sizeOf189, Tryz.zeroValue189, ⟨Tryz.t189, Tryz.typeInfo189, rfl⟩, (fun h => by cases h)⟩
theorem ti190_ok : TOk Tryz.prog 190 ti190 := ⟨Tryz.underlying190, Tryz.isAgg190, Tryz.sizeOf190, Tryz.zeroValue190, ⟨Tryz.t190, Tryz.typeInfo190, rfl⟩, (fun h => by cases h)⟩
theorem ti191_ok : TOk Tryz.prog 191 ti191 := ⟨Tryz.underlying191, Tryz.isAgg191, Tryz.sizeOf191, Tryz.zeroValue191, ⟨Tryz.t191, Tryz.typeInfo191, rfl⟩, (fun h => by cases h)⟩
theorem ti192_ok : TOk Tryz.prog 192 ti192 := ⟨Tryz.underlying192, Tryz.isAgg192, Tryz.sizeOf192, Tryz.zeroValue192, ⟨Tryz.t192, Tryz.typeInfo192, rfl⟩, (fun h => by cases h)⟩
theorem ti193_ok : TOk Tryz.prog 193 ti193 := ⟨Tryz.underlying193, Tryz.isAgg193, Tryz.sizeOf193, Tryz.zeroValue193, ⟨Tryz.t193, Tryz.typeInfo193, rfl⟩, (fun h => by cases h)⟩
theorem ti194_ok : TOk Tryz.prog 194 ti194 := ⟨Tryz.underlying194, Tryz.isAgg194, Tryz.sizeOf194, Tryz.zeroValue194, ⟨Tryz.t194, Tryz.typeInfo194, rfl⟩, (fun h => by cases h)⟩
theorem ti195_ok : TOk Tryz.prog 195 ti195 := ⟨Tryz.underlying195, Tryz.isAgg195, Tryz.sizeOf195, Tryz.zeroValue195, ⟨Tryz.t195, Tryz.typeInfo195, rfl⟩, (fun h => by cases h)⟩
theorem ti196_ok : TOk Tryz.prog 196 ti196 := ⟨Tryz.underlying196, Tryz.isAgg196, Tryz.sizeOf196, Tryz.zeroValue196, ⟨Tryz.t196, Tryz.typeInfo196, rfl⟩, (fun h => by cases h)⟩
theorem ti197_ok : TOk Tryz.prog 197 ti197 := ⟨Tryz.underlying197, Tryz.isAgg197, Tryz.sizeOf197, Tryz.zeroValue197, ⟨Tryz.t197, Tryz.typeInfo197, rfl⟩, (fun h => by cases h)⟩
theorem ti198_ok : TOk Tryz.prog 198 ti198 := ⟨Tryz.underlying198, Tryz.isAgg198, Tryz.sizeOf198, Tryz.zeroValue198, ⟨Tryz.t198, Tryz.typeInfo198, rfl⟩, (fun h => by cases h)⟩
theorem ti199_ok : TOk Tryz.prog 199 ti199 := ⟨Tryz.underlying199, Tryz.isAgg199, Tryz.sizeOf199, Tryz.zeroValue199, ⟨Tryz.t199, Tryz.typeInfo199, rfl⟩, (fun h => by cases h)⟩
theorem ti200_ok : TOk Tryz.prog 200 ti200 := ⟨Tryz.underlying200, Tryz.isAgg200, Tryz.sizeOf200, Tryz.zeroValue200, ⟨Tryz.t200, Tryz.typeInfo200, rfl⟩, (fun h => by cases h)⟩
theorem ti201_ok : TOk Tryz.prog 201 ti201 := ⟨Tryz.underlying201, Tryz.isAgg201, Tryz.sizeOf201, Tryz.zeroValue201, ⟨Tryz.t201, Tryz.typeInfo201, rfl⟩, (fun h => by cases h)⟩
theorem ti202_ok : TOk Tryz.prog 202 ti202 := ⟨Tryz.underlying202, Tryz.isAgg202, Tryz.sizeOf202, Tryz.zeroValue202, ⟨Tryz.t202, Tryz.typeInfo202, rfl⟩, (fun h => by cases h)⟩
theorem ti203_ok : TOk Tryz.prog 203 ti203 := ⟨Tryz.underlying203, Tryz.isAgg203, Tryz.sizeOf203, Tryz.zeroValue203, ⟨Tryz.t203, Tryz.typeInfo203, rfl⟩, (fun h => by cases h)⟩
theorem ti204_ok : TOk Tryz.prog 204 ti204 := ⟨Tryz.underlying204, Tryz.isAgg204, Tryz.sizeOf204, Tryz.zeroValue204, ⟨Tryz.t204, Tryz.typeInfo204, rfl⟩, (fun h => by cases h)⟩
theorem ti205_ok : TOk Tryz.prog 205 ti205 := ⟨Tryz.underlying205, Tryz.isAgg205, Tryz.sizeOf205, Tryz.zeroValue205, ⟨Tryz.t205, Tryz.typeInfo205, rfl⟩, (fun h => by cases h)⟩
theorem ti206_ok : TOk Tryz.prog 206 ti206 := ⟨Tryz.underlying206, Tryz.isAgg206, Tryz.sizeOf206, Tryz.zeroValue206, ⟨Tryz.t206, Tryz.typeInfo206, rfl⟩, (fun h => by cases h)⟩
theorem ti207_ok : TOk Tryz.prog 207 ti207 := ⟨Tryz.underlying207, Tryz.isAgg207, Tryz.sizeOf207, Tryz.zeroValue207, ⟨Tryz.t207, Tryz.typeInfo207, rfl⟩, (fun h => by cases h)⟩
theorem ti208_ok : TOk Tryz.prog 208 ti208 := ⟨Tryz.underlying208, Tryz.isAgg208, Tryz.sizeOf208, Tryz.zeroValue208, ⟨Tryz.t208, Tryz.typeInfo208, rfl⟩, (fun h => by cases h)⟩
theorem ti209_ok : TOk Tryz.prog 209 ti209 := ⟨Tryz.underlying209, Tryz.isAgg209, Tryz.sizeOf209, Tryz.zeroValue209, ⟨Tryz.t209, Tryz.typeInfo209, rfl⟩, (fun h => by cases h)⟩
theorem ti210_ok : TOk Tryz.prog 210 ti210 := ⟨Tryz.underlying210, Tryz.isAgg210, Tryz.sizeOf210, Tryz.zeroValue210, ⟨Tryz.t210, Tryz.typeInfo210, rfl⟩, (fun h => by cases h)⟩
theorem ti211_ok : TOk Tryz.prog 211 ti211 := ⟨Tryz.underlying211, Tryz.isAgg211, Tryz.sizeOf211, Tryz.zeroValue211, ⟨Tryz.t211, Tryz.typeInfo211, rfl⟩, (fun h => by cases h)⟩
theorem ti212_ok : TOk Tryz.prog 212 ti212 := ⟨Tryz.underlying212, Tryz.isAgg212, Tryz.sizeOf212, Tryz.zeroValue212, ⟨Tryz.t212, Tryz.typeInfo212, rfl⟩, (fun h => by cases h)⟩
theorem ti213_ok : TOk Tryz.prog 213 ti213 := ⟨Tryz.underlying213, Tryz.isAgg213, Tryz.sizeOf213, Tryz.zeroValue213, ⟨Tryz.t213, Tryz.typeInfo213, rfl⟩, (fun h => by cases h)⟩
theorem ti214_ok : TOk Tryz.prog 214 ti214 := ⟨Tryz.underlying214, Tryz.isAgg214, Tryz.sizeOf214, Tryz.zeroValue214, ⟨Tryz.t214, Tryz.typeInfo214, rfl⟩, (fun h => by cases h)⟩
theorem ti215_ok : TOk Tryz.prog 215 ti215 := ⟨Tryz.underlying215, Tryz.isAgg215, Tryz.sizeOf215, Tryz.zeroValue215, ⟨Tryz.t215, Tryz.typeInfo215, rfl⟩, (fun h => by cases h)⟩
theorem ti216_ok : TOk Tryz.prog 216 ti216 := ⟨Tryz.underlying216, Tryz.isAgg216, Tryz.sizeOf216, Tryz.zeroValue216, ⟨Tryz.t216, Tryz.typeInfo216, rfl⟩, (fun h => by cases h)⟩
theorem ti217_ok : TOk Tryz.prog 217 ti217 := ⟨Tryz.underlying217, Tryz.isAgg217, Tryz.sizeOf217, Tryz.zeroValue217, ⟨Tryz.t217, Tryz.typeInfo217, rfl⟩, (fun h => by cases h)⟩
theorem ti218_ok : TOk Tryz.prog 218 ti218 := ⟨Tryz.underlying218, Tryz.isAgg218, Tryz.sizeOf218, Tryz.zeroValue218, ⟨Tryz.t218, Tryz.typeInfo218, rfl⟩, (fun h => by cases h)⟩
theorem ti219_ok : TOk Tryz.prog 219 ti219 := ⟨Tryz.underlying219, Tryz.isAgg219, Tryz.sizeOf219, Tryz.zeroValue219, ⟨Tryz.t219, Tryz.typeInfo219, rfl⟩, (fun h => by cases h)⟩
theorem ti220_ok : TOk Tryz.prog 220 ti220 := ⟨Tryz.underlying220, Tryz.isAgg220, Tryz.sizeOf220, Tryz.zeroValue220, ⟨Tryz.t220, Tryz.typeInfo220, rfl⟩, (fun h => by cases h)⟩
theorem ti221_ok : TOk Tryz.prog 221 ti221 := ⟨Tryz.underlying221, Tryz.isAgg221, Tryz.sizeOf221, Tryz.zeroValue221, ⟨Tryz.t221, Tryz.typeInfo221, rfl⟩, (fun h => by cases h)⟩
theorem ti222_ok : TOk Tryz.prog 222 ti222 := ⟨Tryz.underlying222, Tryz.isAgg222, Tryz.sizeOf222, Tryz.zeroValue222, ⟨Tryz.t222, Tryz.typeInfo222, rfl⟩, (fun h => by cases h)⟩
theorem ti223_ok : TOk Tryz.prog 223 ti223 := ⟨Tryz.underlying223, Tryz.isAgg223, Tryz.sizeOf223, Tryz.zeroValue223, ⟨Tryz.t223, Tryz.typeInfo223, rfl⟩, (fun h => by cases h)⟩
theorem ti224_ok : TOk Tryz.prog 224 ti224 := ⟨Tryz.underlying224, Tryz.isAgg224, Tryz.sizeOf224, Tryz.zeroValue224, ⟨Tryz.t224, Tryz.typeInfo224, rfl⟩, (fun h => by cases h)⟩
theorem ti225_ok : TOk Tryz.prog 225 ti225 := ⟨Tryz.underlying225, Tryz.isAgg225, Tryz.sizeOf225, Tryz.zeroValue225, ⟨Tryz.t225, Tryz.typeInfo225, rfl⟩, (fun h => by cases h)⟩
theorem ti226_ok : TOk Tryz.prog 226 ti226 := ⟨Tryz.underlying226, Tryz.isAgg226, Tryz.sizeOf226, Tryz.zeroValue226, ⟨Tryz.t226, Tryz.typeInfo226, rfl⟩, (fun h => by cases h)⟩
theorem ti227_ok : TOk Tryz.prog 227 ti227 := ⟨Tryz.underlying227, Tryz.isAgg227, Tryz.sizeOf227, Tryz.zeroValue227, ⟨Tryz.t227, Tryz.typeInfo227, rfl⟩, (fun h => by cases h)⟩
theorem ti228_ok : TOk Tryz.prog 228 ti228 := ⟨Tryz.underlying228, Tryz.isAgg228, Tryz.sizeOf228, Tryz.zeroValue228, ⟨Tryz.t228, Tryz.typeInfo228, rfl⟩, (fun h => by cases h)⟩
theorem ti229_ok : TOk Tryz.prog 229 ti229 := ⟨Tryz.underlying229, Tryz.isAgg229, Tryz.sizeOf229, Tryz.zeroValue229, ⟨Tryz.t229, Tryz.typeInfo229, rfl⟩, (fun h => by cases h)⟩
theorem ti230_ok : TOk Tryz.prog 230 ti230 := ⟨Tryz.underlying230, Tryz.isAgg230, Tryz.sizeOf230, Tryz.zeroValue230, ⟨Tryz.t230, Tryz.typeInfo230, rfl⟩, (fun h => by cases h)⟩
theorem ti231_ok : TOk Tryz.prog 231 ti231 := ⟨Tryz.underlying231, Tryz.isAgg231, Tryz.sizeOf231, Tryz.zeroValue231, ⟨Tryz.t231, Tryz.typeInfo231, rfl⟩, (fun h => by cases h)⟩
theorem ti232_ok : TOk Tryz.prog 232 ti232 := ⟨Tryz.underlying232, Tryz.isAgg232, Tryz.sizeOf232, Tryz.zeroValue232, ⟨Tryz.t232, Tryz.typeInfo232, rfl⟩, (fun _ => ⟨Tryz.stoodInHeld232, Tryz.eqGuardType232, by intro fs h; cases h; decide⟩)⟩
theorem ti233_ok : TOk Tryz.prog 233 ti233 := ⟨Tryz.underlying233, Tryz.isAgg233, Tryz.sizeOf233, Tryz.zeroValue233, ⟨Tryz.t233, Tryz.typeInfo233, rfl⟩, (fun _ => ⟨Tryz.stoodInHeld233, Tryz.eqGuardType233, by intro fs h; cases h; decide⟩)⟩
theorem ti234_ok : TOk Tryz.prog 234 ti234 := ⟨Tryz.underlying234, Tryz.isAgg234, Tryz.sizeOf234, Tryz.zeroValue234, ⟨Tryz.t234, Tryz.typeInfo234, rfl⟩, (fun h => by cases h)⟩
theorem ti235_ok : TOk Tryz.prog 235 ti235 := ⟨Tryz.underlying235, Tryz.isAgg235, Tryz.sizeOf235, Tryz.zeroValue235, ⟨Tryz.t235, Tryz.typeInfo235, rfl⟩, (fun h => by cases h)⟩
theorem ti236_ok : TOk Tryz.prog 236 ti236 := ⟨Tryz.underlying236, Tryz.isAgg236, Tryz.sizeOf236, Tryz.zeroValue236, ⟨Tryz.t236, Tryz.typeInfo236, rfl⟩, (fun h => by cases h)⟩
theorem ti237_ok : TOk Tryz.prog 237 ti237 := ⟨Tryz.underlying237, Tryz.isAgg237, Tryz.sizeOf237, Tryz.zeroValue237, ⟨Tryz.t237, Tryz.typeInfo237, rfl⟩, (fun h => by cases h)⟩
theorem ti238_ok : TOk Tryz.prog 238 ti238 := ⟨Tryz.underlying238, Tryz.isAgg238, Tryz.sizeOf238, Tryz.zeroValue238, ⟨Tryz.t238, Tryz.typeInfo238, rfl⟩, (fun h => by cases h)⟩
theorem ti239_ok : TOk Tryz.prog 239 ti239 := ⟨Tryz.underlying239, Tryz.isAgg239, Tryz.sizeOf239, Tryz.zeroValue239, ⟨Tryz.t239, Tryz.typeInfo239, rfl⟩, (fun h => by cases h)⟩
theorem ti240_ok : TOk Tryz.prog 240 ti240 := ⟨Tryz.underlying240, Tryz.isAgg240, Tryz.sizeOf240, Tryz.zeroValue240, ⟨Tryz.t240, Tryz.typeInfo240, rfl⟩, (fun h => by cases h)⟩
theorem ti241_ok : TOk Tryz.prog 241 ti241 := ⟨Tryz.underlying241, Tryz.isAgg241, Tryz.sizeOf241, Tryz.zeroValue241, ⟨Tryz.t241, Tryz.typeInfo241, rfl⟩, (fun h => by cases h)⟩
theorem ti242_ok : TOk Tryz.prog 242 ti242 := ⟨Tryz.underlying242, Tryz.isAgg242, Tryz.sizeOf242, Tryz.zeroValue242, ⟨Tryz.t242, Tryz.typeInfo242, rfl⟩, (fun h => by cases h)⟩
theorem ti243_ok : TOk Tryz.prog 243 ti243 := ⟨Tryz.underlying243, Tryz.isAgg243, Tryz.sizeOf243, Tryz.zeroValue243, ⟨Tryz.t243, Tryz.typeInfo243, rfl⟩, (fun h => by cases h)⟩
theorem ti244_ok : TOk Tryz.prog 244 ti244 := ⟨Tryz.underlying244, Tryz.isAgg244, Tryz.sizeOf244, Tryz.zeroValue244, ⟨Tryz.t244, Tryz.typeInfo244, rfl⟩, (fun h => by cases h)⟩
theorem ti245_ok : TOk Tryz.prog 245 ti245 := ⟨Tryz.underlying245, Tryz.isAgg245, Tryz.sizeOf245, Tryz.zeroValue245, ⟨Tryz.t245, Tryz.typeInfo245, rfl⟩, (fun h => by cases h)⟩
theorem ti246_ok : TOk Tryz.prog 246 ti246 := ⟨Tryz.underlying246, Tryz.isAgg246, Tryz.sizeOf246, Tryz.zeroValue246, ⟨Tryz.t246, Tryz.typeInfo246, rfl⟩, (fun h => by cases h)⟩
theorem ti247_ok : TOk Tryz.prog 247 ti247 := ⟨Tryz.underlying247, Tryz.isAgg247, Tryz.sizeOf247, Tryz.zeroValue247, ⟨Tryz.t247, Tryz.typeInfo247, rfl⟩, (fun h => by cases h)⟩
theorem ti248_ok : TOk Tryz.prog 248 ti248 := ⟨Tryz.underlying248, Tryz.isAgg248, Tryz.sizeOf248, Tryz.zeroValue248, ⟨Tryz.t248, Tryz.typeInfo248, rfl⟩, (fun h => by cases h)⟩
theorem ti249_ok : TOk Tryz.prog 249 ti249 := ⟨Tryz.underlying249, Tryz.isAgg249, Tryz.sizeOf249, Tryz.zeroValue249, ⟨Tryz.t249, Tryz.typeInfo249, rfl⟩, (fun h => by cases h)⟩
theorem ti250_ok : TOk Tryz.prog 250 ti250 := ⟨Tryz.underlying250, Tryz.isAgg250, Tryz.sizeOf250, Tryz.zeroValue250, ⟨Tryz.t250, Tryz.typeInfo250, rfl⟩, (fun h => by cases h)⟩
theorem ti251_ok : TOk Tryz.prog 251 ti251 := ⟨Tryz.underlying251, Tryz.isAgg251, Tryz.sizeOf251, Tryz.zeroValue251, ⟨Tryz.t251, Tryz.typeInfo251, rfl⟩, (fun h => by cases h)⟩
theorem ti252_ok : TOk Tryz.prog 252 ti252 := ⟨Tryz.underlying252, Tryz.isAgg252, Tryz.sizeOf252, Tryz.zeroValue252, ⟨Tryz.t252, Tryz.typeInfo252, rfl⟩, (fun h => by cases h)⟩
theorem ti253_ok : TOk Tryz.prog 253 ti253 := ⟨Tryz.underlying253, Tryz.isAgg253, Tryz.sizeOf253, Tryz.zeroValue253, ⟨Tryz.t253, Tryz.typeInfo253, rfl⟩, (fun h => by cases h)⟩
theorem ti254_ok : TOk Tryz.prog 254 ti254 := ⟨Tryz.underlying254, Tryz.isAgg254, Tryz.sizeOf254, Tryz.zeroValue254, ⟨Tryz.t254, Tryz.typeInfo254, rfl⟩, (fun h => by cases h)⟩
theorem ti255_ok : TOk Tryz.prog 255 ti255 := ⟨Tryz.underlying255, Tryz.isAgg255, Tryz.sizeOf255, Tryz.zeroValue255, ⟨Tryz.t255, Tryz.typeInfo255, rfl⟩, (fun h => by cases h)⟩
theorem ti256_ok : TOk Tryz.prog 256 ti256 := ⟨Tryz.underlying256, Tryz.isAgg256, Tryz.sizeOf256, Tryz.zeroValue256, ⟨Tryz.t256, Tryz.typeInfo256, rfl⟩, (fun h => by cases h)⟩
theorem ti257_ok : TOk Tryz.prog 257 ti257 := ⟨Tryz.underlying257, Tryz.isAgg257, Tryz.sizeOf257, Tryz.zeroValue257, ⟨Tryz.t257, Tryz.typeInfo257, rfl⟩, (fun h => by cases h)⟩
theorem ti258_ok : TOk Tryz.prog 258 ti258 := ⟨Tryz.underlying258, Tryz.isAgg258, Tryz.sizeOf258, Tryz.zeroValue258, ⟨Tryz.t258, Tryz.typeInfo258, rfl⟩, (fun h => by cases h)⟩
theorem ti259_ok : TOk Tryz.prog 259 ti259 := ⟨Tryz.underlying259, Tryz.isAgg259, Tryz.sizeOf259, Tryz.zeroValue259, ⟨Tryz.t259, Tryz.typeInfo259, rfl⟩, (fun h => by cases h)⟩
theorem ti260_ok : TOk Tryz.prog 260 ti260 := ⟨Tryz.underlying260, Tryz.isAgg260, Tryz.sizeOf260, Tryz.zeroValue260, ⟨Tryz.t260, Tryz.typeInfo260, rfl⟩, (fun h => by cases h)⟩
theorem ti261_ok : TOk Tryz.prog 261 ti261 := ⟨Tryz.underlying261, Tryz.isAgg261, Tryz.sizeOf261, Tryz.zeroValue261, ⟨Tryz.t261, Tryz.typeInfo261, rfl⟩, (fun h => by cases h)⟩
theorem ti262_ok : TOk Tryz.prog 262 ti262 := ⟨Tryz.underlying262, Tryz.isAgg262, Tryz.sizeOf262, Tryz.zeroValue262, ⟨Tryz.t262, Tryz.typeInfo262, rfl⟩, (fun h => by cases h)⟩
theorem ti263_ok : TOk Tryz.prog 263 ti263 := ⟨Tryz.underlying263, Tryz.isAgg263, Tryz.sizeOf263, Tryz.zeroValue263, ⟨Tryz.t263, Tryz.typeInfo263, rfl⟩, (fun h => by cases h)⟩
theorem ti264_ok : TOk Tryz.prog 264 ti264 := ⟨Tryz.underlying264, Tryz.isAgg264, Tryz.sizeOf264, Tryz.zeroValue264, ⟨Tryz.t264, Tryz.typeInfo264, rfl⟩, (fun h => by cases h)⟩
theorem ti265_ok : TOk Tryz.prog 265 ti265 := ⟨Tryz.underlying265, Tryz.isAgg265, Tryz.sizeOf265, Tryz.zeroValue265, ⟨Tryz.t265, Tryz.typeInfo265, rfl⟩, (fun h => by cases h)⟩
theorem ti266_ok : TOk Tryz.prog 266 ti266 := ⟨Tryz.underlying266, Tryz.isAgg266, Tryz.sizeOf266, Tryz.zeroValue266, ⟨Tryz.t266, Tryz.typeInfo266, rfl⟩, (fun h => by cases h)⟩
theorem ti267_ok : TOk Tryz.prog 267 ti267 := ⟨Tryz.underlying267, Tryz.isAgg267, Tryz.sizeOf267, Tryz.zeroValue267, ⟨Tryz.t267, Tryz.typeInfo267, rfl⟩, (fun h => by cases h)⟩
theorem ti268_ok : TOk Tryz.prog 268 ti268 := ⟨Tryz.underlying268, Tryz.isAgg268, Tryz.sizeOf268, Tryz.zeroValue268, ⟨Tryz.t268, Tryz.typeInfo268, rfl⟩, (fun h => by cases h)⟩
theorem ti269_ok : TOk Tryz.prog 269 ti269 := ⟨Tryz.underlying269, Tryz.isAgg269, Tryz.sizeOf269, Tryz.zeroValue269, ⟨Tryz.t269, Tryz.typeInfo269, rfl⟩, (fun h => by cases h)⟩
theorem ti270_ok : TOk Tryz.prog 270 ti270 := ⟨Tryz.underlying270, Tryz.isAgg270, Tryz.sizeOf270, Tryz.zeroValue270, ⟨Tryz.t270, Tryz.typeInfo270, rfl⟩, (fun h => by cases h)⟩
theorem ti271_ok : TOk Tryz.prog 271 ti271 := ⟨Tryz.underlying271, Tryz.isAgg271, Tryz.sizeOf271, Tryz.zeroValue271, ⟨Tryz.t271, Tryz.typeInfo271, rfl⟩, (fun h => by cases h)⟩
theorem ti272_ok : TOk Tryz.prog 272 ti272 := ⟨Tryz.underlying272, Tryz.isAgg272, Tryz.sizeOf272, Tryz.zeroValue272, ⟨Tryz.t272, Tryz.typeInfo272, rfl⟩, (fun h => by cases h)⟩
theorem ti273_ok : TOk Tryz.prog 273 ti273 := ⟨Tryz.underlying273, Tryz.isAgg273, Tryz.sizeOf273, Tryz.zeroValue273, ⟨Tryz.t273, Tryz.typeInfo273, rfl⟩, (fun h => by cases h)⟩
theorem ti274_ok : TOk Tryz.prog 274 ti274 := ⟨Tryz.underlying274, Tryz.isAgg274, Tryz.sizeOf274, Tryz.zeroValue274, ⟨Tryz.t274, Tryz.typeInfo274, rfl⟩, (fun h => by cases h)⟩
theorem ti275_ok : TOk Tryz.prog 275 ti275 := ⟨Tryz.underlying275, Tryz.isAgg275, Tryz.sizeOf275, Tryz.zeroValue275, ⟨Tryz.t275, Tryz.typeInfo275, rfl⟩, (fun h => by cases h)⟩
theorem ti276_ok : TOk Tryz.prog 276 ti276 := ⟨Tryz.underlying276, Tryz.isAgg276, Tryz.sizeOf276, Tryz.zeroValue276, ⟨Tryz.t276, Tryz.typeInfo276, rfl⟩, (fun h => by cases h)⟩
theorem ti277_ok : TOk Tryz.prog 277 ti277 := ⟨Tryz.underlying277, Tryz.isAgg277, Tryz.sizeOf277, Tryz.zeroValue277, ⟨Tryz.t277, Tryz.typeInfo277, rfl⟩, (fun h => by cases h)⟩
theorem ti278_ok : TOk Tryz.prog 278 ti278 := ⟨Tryz.underlying278, Tryz.isAgg278, Tryz.sizeOf278, Tryz.zeroValue278, ⟨Tryz.t278, Tryz.typeInfo278, rfl⟩, (fun h => by cases h)⟩
theorem ti279_ok : TOk Tryz.prog 279 ti279 := ⟨Tryz.underlying279, Tryz.isAgg279, Tryz.sizeOf279, Tryz.zeroValue279, ⟨Tryz.t279, Tryz.typeInfo279, rfl⟩, (fun h => by cases h)⟩
theorem ti280_ok : TOk Tryz.prog 280 ti280 := ⟨Tryz.underlying280, Tryz.isAgg280, Tryz.sizeOf280, Tryz.zeroValue280, ⟨Tryz.t280, Tryz.typeInfo280, rfl⟩, (fun h => by cases h)⟩
theorem ti281_ok : TOk Tryz.prog 281 ti281 := ⟨Tryz.underlying281, Tryz.isAgg281, Tryz.sizeOf281, Tryz.zeroValue281, ⟨Tryz.t281, Tryz.typeInfo281, rfl⟩, (fun h => by cases h)⟩
theorem ti282_ok : TOk Tryz.prog 282 ti282 := ⟨Tryz.underlying282, Tryz.isAgg282, Tryz.sizeOf282, Tryz.zeroValue282, ⟨Tryz.t282, Tryz.typeInfo282, rfl⟩, (fun h => by cases h)⟩
theorem ti283_ok : TOk Tryz.prog 283 ti283 := ⟨Tryz.underlying283, Tryz.isAgg283, Tryz.sizeOf283, Tryz.zeroValue283, ⟨Tryz.t283, Tryz.typeInfo283, rfl⟩, (fun h => by cases h)⟩
theorem ti284_ok : TOk Tryz.prog 284 ti284 := ⟨Tryz.underlying284, Tryz.isAgg284, Tryz.sizeOf284, Tryz.zeroValue284, ⟨Tryz.t284, Tryz.typeInfo284, rfl⟩, (fun h => by cases h)⟩
theorem ti285_ok : TOk Tryz.prog 285 ti285 := ⟨Tryz.underlying285, Tryz.isAgg285, Tryz.sizeOf285, Tryz.zeroValue285, ⟨Tryz.t285, Tryz.typeInfo285, rfl⟩, (fun h => by cases h)⟩
theorem ti286_ok : TOk Tryz.prog 286 ti286 := ⟨Tryz.underlying286, Tryz.isAgg286, Tryz.sizeOf286, Tryz.zeroValue286, ⟨Tryz.t286, Tryz.typeInfo286, rfl⟩, (fun h => by cases h)⟩
theorem ti287_ok : TOk Tryz.prog 287 ti287 := ⟨Tryz.underlying287, Tryz.isAgg287, Tryz.sizeOf287, Tryz.zeroValue287, ⟨Tryz.t287, Tryz.typeInfo287, rfl⟩, (fun h => by cases h)⟩
theorem ti288_ok : TOk Tryz.prog 288 ti288 := ⟨Tryz.underlying288, Tryz.isAgg288, Tryz.sizeOf288, Tryz.zeroValue288, ⟨Tryz.t288, Tryz.typeInfo288, rfl⟩, (fun h => by cases h)⟩
theorem ti289_ok : TOk Tryz.prog 289 ti289 := ⟨Tryz.underlying289, Tryz.isAgg289, Tryz.sizeOf289, Tryz.zeroValue289, ⟨Tryz.t289, Tryz.typeInfo289, rfl⟩, (fun h => by cases h)⟩
theorem ti290_ok : TOk Tryz.prog 290 ti290 := ⟨Tryz.underlying290, Tryz.isAgg290, Tryz.sizeOf290, Tryz.zeroValue290, ⟨Tryz.t290, Tryz.typeInfo290, rfl⟩, (fun h => by cases h)⟩
theorem ti291_ok : TOk Tryz.prog 291 ti291 := ⟨Tryz.underlying291, Tryz.isAgg291, Tryz.sizeOf291, Tryz.zeroValue291, ⟨Tryz.t291, Tryz.typeInfo291, rfl⟩, (fun h => by cases h)⟩
theorem ti292_ok : TOk Tryz.prog 292 ti292 := ⟨Tryz.underlying292, Tryz.isAgg292, Tryz.sizeOf292, Tryz.zeroValue292, ⟨Tryz.t292, Tryz.typeInfo292, rfl⟩, (fun h => by cases h)⟩
theorem ti293_ok : TOk Tryz.prog 293 ti293 := ⟨Tryz.underlying293, Tryz.isAgg293, Tryz.sizeOf293, Tryz.zeroValue293, ⟨Tryz.t293, Tryz.typeInfo293, rfl⟩, (fun h => by cases h)⟩
theorem ti294_ok : TOk Tryz.prog 294 ti294 := ⟨Tryz.underlying294, Tryz.isAgg294, Tryz.sizeOf294, Tryz.zeroValue294, ⟨Tryz.t294, Tryz.typeInfo294, rfl⟩, (fun h => by cases h)⟩
theorem ti295_ok : TOk Tryz.prog 295 ti295 := ⟨Tryz.underlying295, Tryz.isAgg295, Tryz.sizeOf295, Tryz.zeroValue295, ⟨Tryz.t295, Tryz.typeInfo295, rfl⟩, (fun h => by cases h)⟩
theorem ti296_ok : TOk Tryz.prog 296 ti296 := ⟨Tryz.underlying296, Tryz.isAgg296, Tryz.sizeOf296, Tryz.zeroValue296, ⟨Tryz.t296, Tryz.typeInfo296, rfl⟩, (fun h => by cases h)⟩
theorem ti297_ok : TOk Tryz.prog 297 ti297 := ⟨Tryz.underlying297, Tryz.isAgg297, Tryz.sizeOf297, Tryz.zeroValue297, ⟨Tryz.t297, Tryz.typeInfo297, rfl⟩, (fun h => by cases h)⟩
theorem ti298_ok : TOk Tryz.prog 298 ti298 := ⟨Tryz.underlying298, Tryz.isAgg298, Tryz.sizeOf298, Tryz.zeroValue298, ⟨Tryz.t298, Tryz.typeInfo298, rfl⟩, (fun h => by cases h)⟩
theorem ti299_ok : TOk Tryz.prog 299 ti299 := ⟨Tryz.underlying299, Tryz.isAgg299, Tryz.sizeOf299, Tryz.zeroValue299, ⟨Tryz.t299, Tryz.typeInfo299, rfl⟩, (fun h => by cases h)⟩
theorem ti300_ok : TOk Tryz.prog 300 ti300 := ⟨Tryz.underlying300, Tryz.isAgg300, Tryz.sizeOf300, Tryz.zeroValue300, ⟨Tryz.t300, Tryz.typeInfo300, rfl⟩, (fun h => by cases h)⟩
theorem ti301_ok : TOk Tryz.prog 301 ti301 := ⟨Tryz.underlying301, Tryz.isAgg301, Tryz.sizeOf301, Tryz.zeroValue301, ⟨Tryz.t301, Tryz.typeInfo301, rfl⟩, (fun h => by cases h)⟩
theorem ti302_ok : TOk Tryz.prog 302 ti302 := ⟨Tryz.underlying302, Tryz.isAgg302, Tryz.sizeOf302, Tryz.zeroValue302, ⟨Tryz.t302, Tryz.typeInfo302, rfl⟩, (fun h => by cases h)⟩
theorem ti303_ok : TOk Tryz.prog 303 ti303 := ⟨Tryz.underlying303, Tryz.isAgg303, Tryz.sizeOf303, Tryz.zeroValue303, ⟨Tryz.t303, Tryz.typeInfo303, rfl⟩, (fun h => by cases h)⟩
theorem ti304_ok : TOk Tryz.prog 304 ti304 := ⟨Tryz.underlying304, Tryz.isAgg304, Tryz.sizeOf304, Tryz.zeroValue304, ⟨Tryz.t304, Tryz.typeInfo304, rfl⟩, (fun h => by cases h)⟩
theorem ti305_ok : TOk Tryz.prog 305 ti305 := ⟨Tryz.underlying305, Tryz.isAgg305, Tryz.sizeOf305, Tryz.zeroValue305, ⟨Tryz.t305, Tryz.typeInfo305, rfl⟩, (fun h => by cases h)⟩
theorem ti306_ok : TOk Tryz.prog 306 ti306 := ⟨Tryz.underlying306, Tryz.isAgg306, Tryz.sizeOf306, Tryz.zeroValue306, ⟨Tryz.t306, Tryz.typeInfo306, rfl⟩, (fun h => by cases h)⟩
theorem ti307_ok : TOk Tryz.prog 307 ti307 := ⟨Tryz.underlying307, Tryz.isAgg307, Tryz.sizeOf307, Tryz.zeroValue307, ⟨Tryz.t307, Tryz.typeInfo307, rfl⟩, (fun h => by cases h)⟩
theorem ti308_ok : TOk Tryz.prog 308 ti308 := ⟨Tryz.underlying308, Tryz.isAgg308, Tryz.sizeOf308, Tryz.zeroValue308, ⟨Tryz.t308, Tryz.typeInfo308, rfl⟩, (fun h => by cases h)⟩
theorem ti309_ok : TOk Tryz.prog 309 ti309 := ⟨Tryz.underlying309, Tryz.isAgg309, Tryz.sizeOf309, Tryz.zeroValue309, ⟨Tryz.t309, Tryz.typeInfo309, rfl⟩, (fun h => by cases h)⟩
theorem ti310_ok : TOk Tryz.prog 310 ti310 := ⟨Tryz.underlying310, Tryz.isAgg310, Tryz.sizeOf310, Tryz.zeroValue310, ⟨Tryz.t310, Tryz.typeInfo310, rfl⟩, (fun h => by cases h)⟩
theorem ti311_ok : TOk Tryz.prog 311 ti311 := ⟨Tryz.underlying311, Tryz.isAgg311, Tryz.sizeOf311, Tryz.zeroValue311, ⟨Tryz.t311, Tryz.typeInfo311, rfl⟩, (fun h => by cases h)⟩
theorem ti312_ok : TOk Tryz.prog 312 ti312 := ⟨Tryz.underlying312, Tryz.isAgg312, Tryz.sizeOf312, Tryz.zeroValue312, ⟨Tryz.t312, Tryz.typeInfo312, rfl⟩, (fun h => by cases h)⟩
theorem ti313_ok : TOk Tryz.prog 313 ti313 := ⟨Tryz.underlying313, Tryz.isAgg313, Tryz.sizeOf313, Tryz.zeroValue313, ⟨Tryz.t313, Tryz.typeInfo313, rfl⟩, (fun h => by cases h)⟩
theorem ti314_ok : TOk Tryz.prog 314 ti314 := ⟨Tryz.underlying314, Tryz.isAgg314, Tryz.sizeOf314, Tryz.zeroValue314, ⟨Tryz.t314, Tryz.typeInfo314, rfl⟩, (fun h => by cases h)⟩
theorem ti315_ok : TOk Tryz.prog 315 ti315 := ⟨Tryz.underlying315, Tryz.isAgg315, Tryz.sizeOf315, Tryz.zeroValue315, ⟨Tryz.t315, Tryz.typeInfo315, rfl⟩, (fun h => by cases h)⟩
theorem ti316_ok : TOk Tryz.prog 316 ti316 := ⟨Tryz.underlying316, Tryz.isAgg316, Tryz.sizeOf316, Tryz.zeroValue316, ⟨Tryz.t316, Tryz.typeInfo316, rfl⟩, (fun h => by cases h)⟩
theorem ti317_ok : TOk Tryz.prog 317 ti317 := ⟨Tryz.underlying317, Tryz.isAgg317, Tryz.sizeOf317, Tryz.zeroValue317, ⟨Tryz.t317, Tryz.typeInfo317, rfl⟩, (fun h => by cases h)⟩
theorem ti318_ok : TOk Tryz.prog 318 ti318 := ⟨Tryz.underlying318, Tryz.isAgg318, Tryz.sizeOf318, Tryz.zeroValue318, ⟨Tryz.t318, Tryz.typeInfo318, rfl⟩, (fun h => by cases h)⟩
theorem ti319_ok : TOk Tryz.prog 319 ti319 := ⟨Tryz.underlying319, Tryz.isAgg319, Tryz.sizeOf319, Tryz.zeroValue319, ⟨Tryz.t319, Tryz.typeInfo319, rfl⟩, (fun h => by cases h)⟩
theorem ti320_ok : TOk Tryz.prog 320 ti320 := ⟨Tryz.underlying320, Tryz.isAgg320, Tryz.sizeOf320, Tryz.zeroValue320, ⟨Tryz.t320, Tryz.typeInfo320, rfl⟩, (fun h => by cases h)⟩
theorem ti321_ok : TOk Tryz.prog 321 ti321 := ⟨Tryz.underlying321, Tryz.isAgg321, Tryz.sizeOf321, Tryz.zeroValue321, ⟨Tryz.t321, Tryz.typeInfo321, rfl⟩, (fun h => by cases h)⟩
theorem ti322_ok : TOk Tryz.prog 322 ti322 := ⟨Tryz.underlying322, Tryz.isAgg322, Tryz.sizeOf322, Tryz.zeroValue322, ⟨Tryz.t322, Tryz.typeInfo322, rfl⟩, (fun h => by cases h)⟩
theorem ti323_ok : TOk Tryz.prog 323 ti323 := ⟨Tryz.underlying323, Tryz.isAgg323, Tryz.sizeOf323, Tryz.zeroValue323, ⟨Tryz.t323, Tryz.typeInfo323, rfl⟩, (fun h => by cases h)⟩
theorem ti324_ok : TOk Tryz.prog 324 ti324 := ⟨Tryz.underlying324, Tryz.isAgg324, Tryz.sizeOf324, Tryz.zeroValue324, ⟨Tryz.t324, Tryz.typeInfo324, rfl⟩, (fun h => by cases h)⟩
theorem ti325_ok : TOk Tryz.prog 325 ti325 := ⟨Tryz.underlying325, Tryz.isAgg325, Tryz.sizeOf325, Tryz.zeroValue325, ⟨Tryz.t325, Tryz.typeInfo325, rfl⟩, (fun h => by cases h)⟩
theorem ti326_ok : TOk Tryz.prog 326 ti326 := ⟨Tryz.underlying326, Tryz.isAgg326, Tryz.sizeOf326, Tryz.zeroValue326, ⟨Tryz.t326, Tryz.typeInfo326, rfl⟩, (fun h => by cases h)⟩
theorem ti327_ok : TOk Tryz.prog 327 ti327 := ⟨Tryz.underlying327, Tryz.isAgg327, Tryz.sizeOf327, Tryz.zeroValue327, ⟨Tryz.t327, Tryz.typeInfo327, rfl⟩, (fun h => by cases h)⟩
theorem ti328_ok : TOk Tryz.prog 328 ti328 := ⟨Tryz.underlying328, Tryz.isAgg328, Tryz.sizeOf328, Tryz.zeroValue328, ⟨Tryz.t328, Tryz.typeInfo328, rfl⟩, (fun h => by cases h)⟩
theorem ti329_ok : TOk Tryz.prog 329 ti329 := ⟨Tryz.underlying329, Tryz.isAgg329, Tryz.sizeOf329, Tryz.zeroValue329, ⟨Tryz.t329, Tryz.typeInfo329, rfl⟩, (fun h => by cases h)⟩
theorem ti330_ok : TOk Tryz.prog 330 ti330 := ⟨Tryz.underlying330, Tryz.isAgg330, Tryz.sizeOf330, Tryz.zeroValue330, ⟨Tryz.t330, Tryz.typeInfo330, rfl⟩, (fun h => by cases h)⟩
theorem ti331_ok : TOk Tryz.prog 331 ti331 := ⟨Tryz.underlying331, Tryz.isAgg331, Tryz.sizeOf331, Tryz.zeroValue331, ⟨Tryz.t331, Tryz.typeInfo331, rfl⟩, (fun h => by cases h)⟩
theorem ti332_ok : TOk Tryz.prog 332 ti332 := ⟨Tryz.underlying332, Tryz.isAgg332, Tryz.sizeOf332, Tryz.zeroValue332, ⟨Tryz.t332, Tryz.typeInfo332, rfl⟩, (fun h => by cases h)⟩
theorem ti333_ok : TOk Tryz.prog 333 ti333 := ⟨Tryz.underlying333, Tryz.isAgg333, Tryz.sizeOf333, Tryz.zeroValue333, ⟨Tryz.t333, Tryz.typeInfo333, rfl⟩, (fun h => by cases h)⟩
theorem ti334_ok : TOk Tryz.prog 334 ti334 := ⟨Tryz.underlying334, Tryz.isAgg334, Tryz.sizeOf334, Tryz.zeroValue334, ⟨Tryz.t334, Tryz.typeInfo334, rfl⟩, (fun h => by cases h)⟩
theorem ti335_ok : TOk Tryz.prog 335 ti335 := ⟨Tryz.underlying335, Tryz.isAgg335, Tryz.sizeOf335, Tryz.zeroValue335, ⟨Tryz.t335, Tryz.typeInfo335, rfl⟩, (fun h => by cases h)⟩
theorem ti336_ok : TOk Tryz.prog 336 ti336 := ⟨Tryz.underlying336, Tryz.isAgg336, Tryz.sizeOf336, Tryz.zeroValue336, ⟨Tryz.t336, Tryz.typeInfo336, rfl⟩, (fun h => by cases h)⟩
theorem ti337_ok : TOk Tryz.prog 337 ti337 := ⟨Tryz.underlying337, Tryz.isAgg337, Tryz.sizeOf337, Tryz.zeroValue337, ⟨Tryz.t337, Tryz.typeInfo337, rfl⟩, (fun h => by cases h)⟩
theorem ti338_ok : TOk Tryz.prog 338 ti338 := ⟨Tryz.underlying338, Tryz.isAgg338, Tryz.sizeOf338, Tryz.zeroValue338, ⟨Tryz.t338, Tryz.typeInfo338, rfl⟩, (fun h => by cases h)⟩
theorem ti339_ok : TOk Tryz.prog 339 ti339 := ⟨Tryz.underlying339, Tryz.isAgg339, Tryz.sizeOf339, Tryz.zeroValue339, ⟨Tryz.t339, Tryz.typeInfo339, rfl⟩, (fun h => by cases h)⟩
theorem ti340_ok : TOk Tryz.prog 340 ti340 := ⟨Tryz.underlying340, Tryz.isAgg340, Tryz.sizeOf340, Tryz.zeroValue340, ⟨Tryz.t340, Tryz.typeInfo340, rfl⟩, (fun h => by cases h)⟩
theorem ti341_ok : TOk Tryz.prog 341 ti341 := ⟨Tryz.underlying341, Tryz.isAgg341, Tryz.sizeOf341, Tryz.zeroValue341, ⟨Tryz.t341, Tryz.typeInfo341, rfl⟩, (fun h => by cases h)⟩
theorem ti342_ok : TOk Tryz.prog 342 ti342 := ⟨Tryz.underlying342, Tryz.isAgg342, Tryz.sizeOf342, Tryz.zeroValue342, ⟨Tryz.t342, Tryz.typeInfo342, rfl⟩, (fun h => by cases h)⟩
theorem ti343_ok : TOk Tryz.prog 343 ti343 := ⟨Tryz.underlying343, Tryz.isAgg343, Tryz.sizeOf343, Tryz.zeroValue343, ⟨Tryz.t343, Tryz.typeInfo343, rfl⟩, (fun h => by cases h)⟩
theorem ti344_ok : TOk Tryz.prog 344 ti344 := ⟨Tryz.underlying344, Tryz.isAgg344, Tryz.sizeOf344, Tryz.zeroValue344, ⟨Tryz.t344, Tryz.typeInfo344, rfl⟩, (fun h => by cases h)⟩
theorem ti345_ok : TOk Tryz.prog 345 ti345 := ⟨Tryz.underlying345, Tryz.isAgg345, Tryz.sizeOf345, Tryz.zeroValue345, ⟨Tryz.t345, Tryz.typeInfo345, rfl⟩, (fun h => by cases h)⟩
theorem ti346_ok : TOk Tryz.prog 346 ti346 := ⟨Tryz.underlying346, Tryz.isAgg346, Tryz.sizeOf346, Tryz.zeroValue346, ⟨Tryz.t346, Tryz.typeInfo346, rfl⟩, (fun h => by cases h)⟩
theorem ti347_ok : TOk Tryz.prog 347 ti347 := ⟨Tryz.underlying347, Tryz.isAgg347, Tryz.sizeOf347, Tryz.zeroValue347, ⟨Tryz.t347, Tryz.typeInfo347, rfl⟩, (fun h => by cases h)⟩
theorem ti348_ok : TOk Tryz.prog 348 ti348 := ⟨Tryz.underlying348, Tryz.isAgg348, Tryz.sizeOf348, Tryz.zeroValue348, ⟨Tryz.t348, Tryz.typeInfo348, rfl⟩, (fun h => by cases h)⟩
theorem ti349_ok : TOk Tryz.prog 349 ti349 := ⟨Tryz.underlying349, Tryz.isAgg349, Tryz.sizeOf349, Tryz.zeroValue349, ⟨Tryz.t349, Tryz.typeInfo349, rfl⟩, (fun h => by cases h)⟩
theorem ti350_ok : TOk Tryz.prog 350 ti350 := ⟨Tryz.underlying350, Tryz.isAgg350, Tryz.sizeOf350, Tryz.zeroValue350, ⟨Tryz.t350, Tryz.typeInfo350, rfl⟩, (fun h => by cases h)⟩
theorem ti351_ok : TOk Tryz.prog 351 ti351 := ⟨Tryz.underlying351, Tryz.isAgg351, Tryz.sizeOf351, Tryz.zeroValue351, ⟨Tryz.t351, Tryz.typeInfo351, rfl⟩, (fun h => by cases h)⟩
theorem ti352_ok : TOk Tryz.prog 352 ti352 := ⟨Tryz.underlying352, Tryz.isAgg352, Tryz.sizeOf352, Tryz.zeroValue352, ⟨Tryz.t352, Tryz.typeInfo352, rfl⟩, (fun h => by cases h)⟩
theorem ti353_ok : TOk Tryz.prog 353 ti353 := ⟨Tryz.underlying353, Tryz.isAgg353, Tryz.sizeOf353, Tryz.zeroValue353, ⟨Tryz.t353, Tryz.typeInfo353, rfl⟩, (fun h => by cases h)⟩
theorem ti354_ok : TOk Tryz.prog 354 ti354 := ⟨Tryz.underlying354, Tryz.isAgg354, Tryz.sizeOf354, Tryz.zeroValue354, ⟨Tryz.t354, Tryz.typeInfo354, rfl⟩, (fun h => by cases h)⟩
theorem ti355_ok : TOk Tryz.prog 355 ti355 := ⟨Tryz.underlying355, Tryz.isAgg355, Tryz.sizeOf355, Tryz.zeroValue355, ⟨Tryz.t355, Tryz.typeInfo355, rfl⟩, (fun h => by cases h)⟩
theorem ti356_ok : TOk Tryz.prog 356 ti356 := ⟨Tryz.underlying356, Tryz.isAgg356, Tryz.sizeOf356, Tryz.zeroValue356, ⟨Tryz.t356, Tryz.typeInfo356, rfl⟩, (fun h => by cases h)⟩
theorem ti357_ok : TOk Tryz.prog 357 ti357 := ⟨Tryz.underlying357, Tryz.isAgg357, Tryz.sizeOf357, Tryz.zeroValue357, ⟨Tryz.t357, Tryz.typeInfo357, rfl⟩, (fun h => by cases h)⟩
theorem ti358_ok : TOk Tryz.prog 358 ti358 := ⟨Tryz.underlying358, Tryz.isAgg358, Tryz.sizeOf358, Tryz.zeroValue358, ⟨Tryz.t358, Tryz.typeInfo358, rfl⟩, (fun h => by cases h)⟩
theorem ti359_ok : TOk Tryz.prog 359 ti359 := ⟨Tryz.underlying359, Tryz.isAgg359, Tryz.sizeOf359, Tryz.zeroValue359, ⟨Tryz.t359, Tryz.typeInfo359, rfl⟩, (fun h => by cases h)⟩
theorem ti360_ok : TOk Tryz.prog 360 ti360 := ⟨Tryz.underlying360, Tryz.isAgg360, Tryz.sizeOf360, Tryz.zeroValue360, ⟨Tryz.t360, Tryz.typeInfo360, rfl⟩, (fun h => by cases h)⟩
theorem ti361_ok : TOk Tryz.prog 361 ti361 := ⟨Tryz.underlying361, Tryz.isAgg361, Tryz.sizeOf361, Tryz.zeroValue361, ⟨Tryz.t361, Tryz.typeInfo361, rfl⟩, (fun h => by cases h)⟩
theorem ti362_ok : TOk Tryz.prog 362 ti362 := ⟨Tryz.underlying362, Tryz.isAgg362, Tryz.sizeOf362, Tryz.zeroValue362, ⟨Tryz.t362, Tryz.typeInfo362, rfl⟩, (fun h => by cases h)⟩
theorem ti363_ok : TOk Tryz.prog 363 ti363 := ⟨Tryz.underlying363, Tryz.isAgg363, Tryz.sizeOf363, Tryz.zeroValue363, ⟨Tryz.t363, Tryz.typeInfo363, rfl⟩, (fun h => by cases h)⟩
theorem ti364_ok : TOk Tryz.prog 364 ti364 := ⟨Tryz.underlying364, Tryz.isAgg364, Tryz.sizeOf364, Tryz.zeroValue364, ⟨Tryz.t364, Tryz.typeInfo364, rfl⟩, (fun h => by cases h)⟩
theorem ti365_ok : TOk Tryz.prog 365 ti365 := ⟨Tryz.underlying365, Tryz.isAgg365, Tryz.sizeOf365, Tryz.zeroValue365, ⟨Tryz.t365, Tryz.typeInfo365, rfl⟩, (fun h => by cases h)⟩
theorem ti366_ok : TOk Tryz.prog 366 ti366 := ⟨Tryz.underlying366, Tryz.isAgg366, Tryz.sizeOf366, Tryz.zeroValue366, ⟨Tryz.t366, Tryz.typeInfo366, rfl⟩, (fun h => by cases h)⟩
theorem ti367_ok : TOk Tryz.prog 367 ti367 := ⟨Tryz.underlying367, Tryz.isAgg367, Tryz.sizeOf367, Tryz.zeroValue367, ⟨Tryz.t367, Tryz.typeInfo367, rfl⟩, (fun h => by cases h)⟩
theorem ti368_ok : TOk Tryz.prog 368 ti368 := ⟨Tryz.underlying368, Tryz.isAgg368, Tryz.sizeOf368, Tryz.zeroValue368, ⟨Tryz.t368, Tryz.typeInfo368, rfl⟩, (fun h => by cases h)⟩
theorem ti369_ok : TOk Tryz.prog 369 ti369 := ⟨Tryz.underlying369, Tryz.isAgg369, Tryz.sizeOf369, Tryz.zeroValue369, ⟨Tryz.t369, Tryz.typeInfo369, rfl⟩, (fun h => by cases h)⟩
theorem ti370_ok : TOk Tryz.prog 370 ti370 := ⟨Tryz.underlying370, Tryz.isAgg370, Tryz.sizeOf370, Tryz.zeroValue370, ⟨Tryz.t370, Tryz.typeInfo370, rfl⟩, (fun h => by cases h)⟩
theorem ti371_ok : TOk Tryz.prog 371 ti371 := ⟨Tryz.underlying371, Tryz.isAgg371, Tryz.sizeOf371, Tryz.zeroValue371, ⟨Tryz.t371, Tryz.typeInfo371, rfl⟩, (fun h => by cases h)⟩
theorem ti372_ok : TOk Tryz.prog 372 ti372 := ⟨Tryz.underlying372, Tryz.isAgg372, Tryz.sizeOf372, Tryz.zeroValue372, ⟨Tryz.t372, Tryz.typeInfo372, rfl⟩, (fun h => by cases h)⟩
theorem ti373_ok : TOk Tryz.prog 373 ti373 := ⟨Tryz.underlying373, Tryz.isAgg373, Tryz.sizeOf373, Tryz.zeroValue373, ⟨Tryz.t373, Tryz.typeInfo373, rfl⟩, (fun h => by cases h)⟩
theorem ti374_ok : TOk Tryz.prog 374 ti374 := ⟨Tryz.underlying374, Tryz.isAgg374, Tryz.sizeOf374, Tryz.zeroValue374, ⟨Tryz.t374, Tryz.typeInfo374, rfl⟩, (fun h => by cases h)⟩
theorem ti375_ok : TOk Tryz.prog 375 ti375 := ⟨Tryz.underlying375, Tryz.isAgg375, Tryz.sizeOf375, Tryz.zeroValue375, ⟨Tryz.t375, Tryz.typeInfo375, rfl⟩, (fun h => by cases h)⟩
theorem ti376_ok : TOk Tryz.prog 376 ti376 := ⟨Tryz.underlying376, Tryz.isAgg376, Tryz.sizeOf376, Tryz.zeroValue376, ⟨Tryz.t376, Tryz.typeInfo376, rfl⟩, (fun h => by cases h)⟩
theorem ti377_ok : TOk Tryz.prog 377 ti377 := ⟨Tryz.underlying377, Tryz.isAgg377, Tryz.sizeOf377, Tryz.zeroValue377, ⟨Tryz.t377, Tryz.typeInfo377, rfl⟩, (fun h => by cases h)⟩
theorem ti378_ok : TOk Tryz.prog 378 ti378 := ⟨Tryz.underlying378, Tryz.isAgg378, Tryz.sizeOf378, Tryz.zeroValue378, ⟨Tryz.t378, Tryz.typeInfo378, rfl⟩, (fun h => by cases h)⟩
theorem ti379_ok : TOk Tryz.prog 379 ti379 := ⟨Tryz.underlying379, Tryz.isAgg379, Tryz.sizeOf379, Tryz.zeroValue379, ⟨Tryz.t379, Tryz.typeInfo379, rfl⟩, (fun h => by cases h)⟩
theorem ti380_ok : TOk Tryz.prog 380 ti380 := ⟨Tryz.underlying380, Tryz.isAgg380, Tryz.sizeOf380, Tryz.zeroValue380, ⟨Tryz.t380, Tryz.typeInfo380, rfl⟩, (fun h => by cases h)⟩
theorem ti381_ok : TOk Tryz.prog 381 ti381 := ⟨Tryz.underlying381, Tryz.isAgg381, Tryz.sizeOf381, Tryz.zeroValue381, ⟨Tryz.t381, Tryz.typeInfo381, rfl⟩, (fun h => by cases h)⟩
theorem ti382_ok : TOk Tryz.prog 382 ti382 := ⟨Tryz.underlying382, Tryz.isAgg382, Tryz.sizeOf382, Tryz.zeroValue382, ⟨Tryz.t382, Tryz.typeInfo382, rfl⟩, (fun h => by cases h)⟩
theorem ti383_ok : TOk Tryz.prog 383 ti383 := ⟨Tryz.underlying383, Tryz.isAgg383, Tryz.sizeOf383, Tryz.zeroValue383, ⟨Tryz.t383, Tryz.typeInfo383, rfl⟩, (fun h => by cases h)⟩
theorem ti384_ok : TOk Tryz.prog 384 ti384 := ⟨Tryz.underlying384, Tryz.isAgg384, Tryz.sizeOf384, Tryz.zeroValue384, ⟨Tryz.t384, Tryz.typeInfo384, rfl⟩, (fun h => by cases h)⟩
theorem ti385_ok : TOk Tryz.prog 385 ti385 := ⟨Tryz.underlying385, Tryz.isAgg385, Tryz.sizeOf385, Tryz.zeroValue385, ⟨Tryz.t385, Tryz.typeInfo385, rfl⟩, (fun h => by cases h)⟩
theorem ti386_ok : TOk Tryz.prog 386 ti386 := ⟨Tryz.underlying386, Tryz.isAgg386, Tryz.sizeOf386, Tryz.zeroValue386, ⟨Tryz.t386, Tryz.typeInfo386, rfl⟩, (fun h => by cases h)⟩
theorem ti387_ok : TOk Tryz.prog 387 ti387 := ⟨Tryz.underlying387, Tryz.isAgg387, Tryz.sizeOf387, Tryz.zeroValue387, ⟨Tryz.t387, Tryz.typeInfo387, rfl⟩, (fun h => by cases h)⟩
theorem ti388_ok : TOk Tryz.prog 388 ti388 := ⟨Tryz.underlying388, Tryz.isAgg388, Tryz.sizeOf388, Tryz.zeroValue388, ⟨Tryz.t388, Tryz.typeInfo388, rfl⟩, (fun h => by cases h)⟩
theorem ti389_ok : TOk Tryz.prog 389 ti389 := ⟨Tryz.underlying389, Tryz.isAgg389, Tryz.sizeOf389, Tryz.zeroValue389, ⟨Tryz.t389, Tryz.typeInfo389, rfl⟩, (fun h => by cases h)⟩
theorem ti390_ok : TOk Tryz.prog 390 ti390 := ⟨Tryz.underlying390, Tryz.isAgg390, Tryz.sizeOf390, Tryz.zeroValue390, ⟨Tryz.t390, Tryz.typeInfo390, rfl⟩, (fun h => by cases h)⟩
theorem ti391_ok : TOk Tryz.prog 391 ti391 := ⟨Tryz.underlying391, Tryz.isAgg391, Tryz.sizeOf391, Tryz.zeroValue391, ⟨Tryz.t391, Tryz.typeInfo391, rfl⟩, (fun h => by cases h)⟩
theorem ti392_ok : TOk Tryz.prog 392 ti392 := ⟨Tryz.underlying392, Tryz.isAgg392, Tryz.sizeOf392, Tryz.zeroValue392, ⟨Tryz.t392, Tryz.typeInfo392, rfl⟩, (fun h => by cases h)⟩
theorem ti393_ok : TOk Tryz.prog 393 ti393 := ⟨Tryz.underlying393, Tryz.isAgg393, Tryz.sizeOf393, Tryz.zeroValue393, ⟨Tryz.t393, Tryz.typeInfo393, rfl⟩, (fun h => by cases h)⟩
theorem ti394_ok : TOk Tryz.prog 394 ti394 := ⟨Tryz.underlying394, Tryz.isAgg394, Tryz.sizeOf394, Tryz.zeroValue394, ⟨Tryz.t394, Tryz.typeInfo394, rfl⟩, (fun h => by cases h)⟩
theorem ti395_ok : TOk Tryz.prog 395 ti395 := ⟨Tryz.underlying395, Tryz.isAgg395, Tryz.sizeOf395, Tryz.zeroValue395, ⟨Tryz.t395, Tryz.typeInfo395, rfl⟩, (fun h => by cases h)⟩
theorem ti396_ok : TOk Tryz.prog 396 ti396 := ⟨Tryz.underlying396, Tryz.isAgg396, Tryz.sizeOf396, Tryz.zeroValue396, ⟨Tryz.t396, Tryz.typeInfo396, rfl⟩, (fun h => by cases h)⟩
theorem ti397_ok : TOk Tryz.prog 397 ti397 := ⟨Tryz.underlying397, Tryz.isAgg397, Tryz.sizeOf397, Tryz.zeroValue397, ⟨Tryz.t397, Tryz.typeInfo397, rfl⟩, (fun h => by cases h)⟩
theorem ti398_ok : TOk Tryz.prog 398 ti398 := ⟨Tryz.underlying398, Tryz.isAgg398, Tryz.sizeOf398, Tryz.zeroValue398, ⟨Tryz.t398, Tryz.typeInfo398, rfl⟩, (fun h => by cases h)⟩
theorem ti399_ok : TOk Tryz.prog 399 ti399 := ⟨Tryz.underlying399, Tryz.isAgg399, Tryz.sizeOf399, Tryz.zeroValue399, ⟨Tryz.t399, Tryz.typeInfo399, rfl⟩, (fun h => by cases h)⟩
theorem ti400_ok : TOk Tryz.prog 400 ti400 := ⟨Tryz.underlying400, Tryz.isAgg400, Tryz.sizeOf400, Tryz.zeroValue400, ⟨Tryz.t400, Tryz.typeInfo400, rfl⟩, (fun h => by cases h)⟩
theorem ti401_ok : TOk Tryz.prog 401 ti401 := ⟨Tryz.underlying401, Tryz.isAgg401, Tryz.sizeOf401, Tryz.zeroValue401, ⟨Tryz.t401, Tryz.typeInfo401, rfl⟩, (fun h => by cases h)⟩
theorem ti402_ok : TOk Tryz.prog 402 ti402 := ⟨Tryz.underlying402, Tryz.isAgg402, Tryz.sizeOf402, Tryz.zeroValue402, ⟨Tryz.t402, Tryz.typeInfo402, rfl⟩, (fun h => by cases h)⟩
theorem ti403_ok : TOk Tryz.prog 403 ti403 := ⟨Tryz.underlying403, Tryz.isAgg403, Tryz.sizeOf403, Tryz.zeroValue403, ⟨Tryz.t403, Tryz.typeInfo403, rfl⟩, (fun h => by cases h)⟩
theorem ti404_ok : TOk Tryz.prog 404 ti404 := ⟨Tryz.underlying404, Tryz.isAgg404, Tryz.sizeOf404, Tryz.zeroValue404, ⟨Tryz.t404, Tryz.typeInfo404, rfl⟩, (fun h => by cases h)⟩
theorem ti405_ok : TOk Tryz.prog 405 ti405 := ⟨Tryz.underlying405, Tryz.isAgg405, Tryz.sizeOf405, Tryz.zeroValue405, ⟨Tryz.t405, Tryz.typeInfo405, rfl⟩, (fun h => by cases h)⟩
theorem ti406_ok : TOk Tryz.prog 406 ti406 := ⟨Tryz.underlying406, Tryz.isAgg406, Tryz.sizeOf406, Tryz.zeroValue406, ⟨Tryz.t406, Tryz.typeInfo406, rfl⟩, (fun h => by cases h)⟩
theorem ti407_ok : TOk Tryz.prog 407 ti407 := ⟨Tryz.underlying407, Tryz.isAgg407, Tryz.sizeOf407, Tryz.zeroValue407, ⟨Tryz.t407, Tryz.typeInfo407, rfl⟩, (fun h => by cases h)⟩
theorem ti408_ok : TOk Tryz.prog 408 ti408 := ⟨Tryz.underlying408, Tryz.isAgg408, Tryz.sizeOf408, Tryz.zeroValue408, ⟨Tryz.t408, Tryz.typeInfo408, rfl⟩, (fun h => by cases h)⟩
theorem ti409_ok : TOk Tryz.prog 409 ti409 := ⟨Tryz.underlying409, Tryz.isAgg409, Tryz.sizeOf409, Tryz.zeroValue409, ⟨Tryz.t409, Tryz.typeInfo409, rfl⟩, (fun h => by cases h)⟩
theorem ti410_ok : TOk Tryz.prog 410 ti410 := ⟨Tryz.underlying410, Tryz.isAgg410, Tryz.sizeOf410, Tryz.zeroValue410, ⟨Tryz.t410, Tryz.typeInfo410, rfl⟩, (fun h => by cases h)⟩
theorem ti411_ok : TOk Tryz.prog 411 ti411 := ⟨Tryz.underlying411, Tryz.isAgg411, Tryz.sizeOf411, Tryz.zeroValue411, ⟨Tryz.t411, Tryz.typeInfo411, rfl⟩, (fun h => by cases h)⟩
theorem ti412_ok : TOk Tryz.prog 412 ti412 := ⟨Tryz.underlying412, Tryz.isAgg412, Tryz.sizeOf412, Tryz.zeroValue412, ⟨Tryz.t412, Tryz.typeInfo412, rfl⟩, (fun h => by cases h)⟩
theorem ti413_ok : TOk Tryz.prog 413 ti413 := ⟨Tryz.underlying413, Tryz.isAgg413, Tryz.sizeOf413, Tryz.zeroValue413, ⟨Tryz.t413, Tryz.typeInfo413, rfl⟩, (fun h => by cases h)⟩
theorem ti414_ok : TOk Tryz.prog 414 ti414 := ⟨Tryz.underlying414, Tryz.isAgg414, Tryz.sizeOf414, Tryz.zeroValue414, ⟨Tryz.t414, Tryz.typeInfo414, rfl⟩, (fun h => by cases h)⟩
theorem ti415_ok : TOk Tryz.prog 415 ti415 := ⟨Tryz.underlying415, Tryz.isAgg415, Tryz.sizeOf415, Tryz.zeroValue415, ⟨Tryz.t415, Tryz.typeInfo415, rfl⟩, (fun h => by cases h)⟩
theorem ti416_ok : TOk Tryz.prog 416 ti416 := ⟨Tryz.underlying416, Tryz.isAgg416, Tryz.sizeOf416, Tryz.zeroValue416, ⟨Tryz.t416, Tryz.typeInfo416, rfl⟩, (fun h => by cases h)⟩
theorem ti417_ok : TOk Tryz.prog 417 ti417 := ⟨Tryz.underlying417, Tryz.isAgg417, Tryz.sizeOf417, Tryz.zeroValue417, ⟨Tryz.t417, Tryz.typeInfo417, rfl⟩, (fun h => by cases h)⟩
theorem ti418_ok : TOk Tryz.prog 418 ti418 := ⟨Tryz.underlying418, Tryz.isAgg418, Tryz.sizeOf418, Tryz.zeroValue418, ⟨Tryz.t418, Tryz.typeInfo418, rfl⟩, (fun h => by cases h)⟩
theorem ti419_ok : TOk Tryz.prog 419 ti419 := ⟨Tryz.underlying419, Tryz.isAgg419, Tryz.sizeOf419, Tryz.zeroValue419, ⟨Tryz.t419, Tryz.typeInfo419, rfl⟩, (fun h => by cases h)⟩
theorem ti420_ok : TOk Tryz.prog 420 ti420 := ⟨Tryz.underlying420, Tryz.isAgg420, Tryz.sizeOf420, Tryz.zeroValue420, ⟨Tryz.t420, Tryz.typeInfo420, rfl⟩, (fun h => by cases h)⟩
theorem ti421_ok : TOk Tryz.prog 421 ti421 := ⟨Tryz.underlying421, Tryz.isAgg421, Tryz.sizeOf421, Tryz.zeroValue421, ⟨Tryz.t421, Tryz.typeInfo421, rfl⟩, (fun h => by cases h)⟩
theorem ti422_ok : TOk Tryz.prog 422 ti422 := ⟨Tryz.underlying422, Tryz.isAgg422, Tryz.sizeOf422, Tryz.zeroValue422, ⟨Tryz.t422, Tryz.typeInfo422, rfl⟩, (fun h => by cases h)⟩
theorem ti423_ok : TOk Tryz.prog 423 ti423 := ⟨Tryz.underlying423, Tryz.isAgg423, Tryz.sizeOf423, Tryz.zeroValue423, ⟨Tryz.t423, Tryz.typeInfo423, rfl⟩, (fun h => by cases h)⟩
theorem ti424_ok : TOk Tryz.prog 424 ti424 := ⟨Tryz.underlying424, Tryz.isAgg424, Tryz.sizeOf424, Tryz.zeroValue424, ⟨Tryz.t424, Tryz.typeInfo424, rfl⟩, (fun h => by cases h)⟩
theorem ti425_ok : TOk Tryz.prog 425 ti425 := ⟨Tryz.underlying425, Tryz.isAgg425, Tryz.sizeOf425, Tryz.zeroValue425, ⟨Tryz.t425, Tryz.typeInfo425, rfl⟩, (fun h => by cases h)⟩
theorem ti426_ok : TOk Tryz.prog 426 ti426 := ⟨Tryz.underlying426, Tryz.isAgg426, Tryz.sizeOf426, Tryz.zeroValue426, ⟨Tryz.t426, Tryz.typeInfo426, rfl⟩, (fun h => by cases h)⟩
theorem ti427_ok : TOk Tryz.prog 427 ti427 := ⟨Tryz.underlying427, Tryz.isAgg427, Tryz.sizeOf427, Tryz.zeroValue427, ⟨Tryz.t427, Tryz.typeInfo427, rfl⟩, (fun h => by cases h)⟩
theorem ti428_ok : TOk Tryz.prog 428 ti428 := ⟨Tryz.underlying428, Tryz.isAgg428, Tryz.sizeOf428, Tryz.zeroValue428, ⟨Tryz.t428, Tryz.typeInfo428, rfl⟩, (fun h => by cases h)⟩
theorem ti429_ok : TOk Tryz.prog 429 ti429 := ⟨Tryz.underlying429, Tryz.isAgg429, Tryz.sizeOf429, Tryz.zeroValue429, ⟨Tryz.t429, Tryz.typeInfo429, rfl⟩, (fun h => by cases h)⟩
theorem ti430_ok : TOk Tryz.prog 430 ti430 := ⟨Tryz.underlying430, Tryz.isAgg430, Tryz.sizeOf430, Tryz.zeroValue430, ⟨Tryz.t430, Tryz.typeInfo430, rfl⟩, (fun h => by cases h)⟩
theorem ti431_ok : TOk Tryz.prog 431 ti431 := ⟨Tryz.underlying431, Tryz.isAgg431, Tryz.sizeOf431, Tryz.zeroValue431, ⟨Tryz.t431, Tryz.typeInfo431, rfl⟩, (fun h => by cases h)⟩
theorem ti432_ok : TOk Tryz.prog 432 ti432 := ⟨Tryz.underlying432, Tryz.isAgg432, Tryz.sizeOf432, Tryz.zeroValue432, ⟨Tryz.t432, Tryz.typeInfo432, rfl⟩, (fun h => by cases h)⟩
theorem ti433_ok : TOk Tryz.prog 433 ti433 := ⟨Tryz.underlying433, Tryz.isAgg433, Tryz.sizeOf433, Tryz.zeroValue433, ⟨Tryz.t433, Tryz.typeInfo433, rfl⟩, (fun h => by cases h)⟩
theorem ti434_ok : TOk Tryz.prog 434 ti434 := ⟨Tryz.underlying434, Tryz.isAgg434, Tryz.sizeOf434, Tryz.zeroValue434, ⟨Tryz.t434, Tryz.typeInfo434, rfl⟩, (fun h => by cases h)⟩
theorem ti435_ok : TOk Tryz.prog 435 ti435 := ⟨Tryz.underlying435, Tryz.isAgg435, Tryz.sizeOf435, Tryz.zeroValue435, ⟨Tryz.t435, Tryz.typeInfo435, rfl⟩, (fun h => by cases h)⟩
theorem ti436_ok : TOk Tryz.prog 436 ti436 := ⟨Tryz.underlying436, Tryz.isAgg436, Tryz.sizeOf436, Tryz.zeroValue436, ⟨Tryz.t436, Tryz.typeInfo436, rfl⟩, (fun h => by cases h)⟩
theorem ti437_ok : TOk Tryz.prog 437 ti437 := ⟨Tryz.underlying437, Tryz.isAgg437, Tryz.sizeOf437, Tryz.zeroValue437, ⟨Tryz.t437, Tryz.typeInfo437, rfl⟩, (fun h => by cases h)⟩
theorem ti438_ok : TOk Tryz.prog 438 ti438 := ⟨Tryz.underlying438, Tryz.isAgg438, Tryz.sizeOf438, Tryz.zeroValue438, ⟨Tryz.t438, Tryz.typeInfo438, rfl⟩, (fun h => by cases h)⟩
theorem ti439_ok : TOk Tryz.prog 439 ti439 := ⟨Tryz.underlying439, Tryz.isAgg439, Tryz.sizeOf439, Tryz.zeroValue439, ⟨Tryz.t439, Tryz.typeInfo439, rfl⟩, (fun h => by cases h)⟩
theorem ti440_ok : TOk Tryz.prog 440 ti440 := ⟨Tryz.underlying440, Tryz.isAgg440, Tryz.sizeOf440, Tryz.zeroValue440, ⟨Tryz.t440, Tryz.typeInfo440, rfl⟩, (fun h => by cases h)⟩
theorem ti441_ok : TOk Tryz.prog 441 ti441 := ⟨Tryz.underlying441, Tryz.isAgg441, Tryz.sizeOf441, Tryz.zeroValue441, ⟨Tryz.t441, Tryz.typeInfo441, rfl⟩, (fun h => by cases h)⟩
theorem ti442_ok : TOk Tryz.prog 442 ti442 := ⟨Tryz.underlying442, Tryz.isAgg442, Tryz.sizeOf442, Tryz.zeroValue442, ⟨Tryz.t442, Tryz.typeInfo442, rfl⟩, (fun h => by cases h)⟩
theorem ti443_ok : TOk Tryz.prog 443 ti443 := ⟨Tryz.underlying443, Tryz.isAgg443, Tryz.sizeOf443, Tryz.zeroValue443, ⟨Tryz.t443, Tryz.typeInfo443, rfl⟩, (fun h => by cases h)⟩
theorem ti444_ok : TOk Tryz.prog 444 ti444 := ⟨Tryz.underlying444, Tryz.isAgg444, Tryz.sizeOf444, Tryz.zeroValue444, ⟨Tryz.t444, Tryz.typeInfo444, rfl⟩, (fun h => by cases h)⟩
theorem ti445_ok : TOk Tryz.prog 445 ti445 := ⟨Tryz.underlying445, Tryz.isAgg445, Tryz.sizeOf445, Tryz.zeroValue445, ⟨Tryz.t445, Tryz.typeInfo445, rfl⟩, (fun h => by cases h)⟩
theorem ti446_ok : TOk Tryz.prog 446 ti446 := ⟨Tryz.underlying446, Tryz.isAgg446, Tryz.sizeOf446, Tryz.zeroValue446, ⟨Tryz.t446, Tryz.typeInfo446, rfl⟩, (fun h => by cases h)⟩
theorem ti447_ok : TOk Tryz.prog 447 ti447 := ⟨Tryz.underlying447, Tryz.isAgg447, Tryz.sizeOf447, Tryz.zeroValue447, ⟨Tryz.t447, Tryz.typeInfo447, rfl⟩, (fun h => by cases h)⟩
theorem ti448_ok : TOk Tryz.prog 448 ti448 := ⟨Tryz.underlying448, Tryz.isAgg448, Tryz.sizeOf448, Tryz.zeroValue448, ⟨Tryz.t448, Tryz.typeInfo448, rfl⟩, (fun h => by cases h)⟩
theorem ti449_ok : TOk Tryz.prog 449 ti449 := ⟨Tryz.underlying449, Tryz.isAgg449, Tryz.sizeOf449, Tryz.zeroValue449, ⟨Tryz.t449, Tryz.typeInfo449, rfl⟩, (fun h => by cases h)⟩
theorem ti450_ok : TOk Tryz.prog 450 ti450 := ⟨Tryz.underlying450, Tryz.isAgg450, Tryz.sizeOf450, Tryz.zeroValue450, ⟨Tryz.t450, Tryz.typeInfo450, rfl⟩, (fun h => by cases h)⟩
theorem ti451_ok : TOk Tryz.prog 451 ti451 := ⟨Tryz.underlying451, Tryz.isAgg451, Tryz.sizeOf451, Tryz.zeroValue451, ⟨Tryz.t451, Tryz.typeInfo451, rfl⟩, (fun h => by cases h)⟩
theorem ti452_ok : TOk Tryz.prog 452 ti452 := ⟨Tryz.underlying452, Tryz.isAgg452, Tryz.sizeOf452, Tryz.zeroValue452, ⟨Tryz.t452, Tryz.typeInfo452, rfl⟩, (fun h => by cases h)⟩
theorem ti453_ok : TOk Tryz.prog 453 ti453 := ⟨Tryz.underlying453, Tryz.isAgg453, Tryz.sizeOf453, Tryz.zeroValue453, ⟨Tryz.t453, Tryz.typeInfo453, rfl⟩, (fun h => by cases h)⟩
theorem ti454_ok : TOk Tryz.prog 454 ti454 := ⟨Tryz.underlying454, Tryz.isAgg454, Tryz.sizeOf454, Tryz.zeroValue454, ⟨Tryz.t454, Tryz.typeInfo454, rfl⟩, (fun h => by cases h)⟩
theorem ti455_ok : TOk Tryz.prog 455 ti455 := ⟨Tryz.underlying455, Tryz.isAgg455, Tryz.sizeOf455, Tryz.zeroValue455, ⟨Tryz.t455, Tryz.typeInfo455, rfl⟩, (fun h => by cases h)⟩
theorem ti456_ok : TOk Tryz.prog 456 ti456 := ⟨Tryz.underlying456, Tryz.isAgg456, Tryz.sizeOf456, Tryz.zeroValue456, ⟨Tryz.t456, Tryz.typeInfo456, rfl⟩, (fun h => by cases h)⟩
theorem ti457_ok : TOk Tryz.prog 457 ti457 := ⟨Tryz.underlying457, Tryz.isAgg457, Tryz.sizeOf457, Tryz.zeroValue457, ⟨Tryz.t457, Tryz.typeInfo457, rfl⟩, (fun h => by cases h)⟩
theorem ti458_ok : TOk Tryz.prog 458 ti458 := ⟨Tryz.underlying458, Tryz.isAgg458, Tryz.sizeOf458, Tryz.zeroValue458, ⟨Tryz.t458, Tryz.typeInfo458, rfl⟩, (fun h => by cases h)⟩
theorem ti459_ok : TOk Tryz.prog 459 ti459 := ⟨Tryz.underlying459, Tryz.isAgg459, Tryz.sizeOf459, Tryz.zeroValue459, ⟨Tryz.t459, Tryz.typeInfo459, rfl⟩, (fun h => by cases h)⟩
theorem ti460_ok : TOk Tryz.prog 460 ti460 := ⟨Tryz.underlying460, Tryz.isAgg460, Tryz.sizeOf460, Tryz.zeroValue460, ⟨Tryz.t460, Tryz.typeInfo460, rfl⟩, (fun h => by cases h)⟩
theorem ti461_ok : TOk Tryz.prog 461 ti461 := ⟨Tryz.underlying461, Tryz.isAgg461, Tryz.sizeOf461, Tryz.zeroValue461, ⟨Tryz.t461, Tryz.typeInfo461, rfl⟩, (fun h => by cases h)⟩
theorem ti462_ok : TOk Tryz.prog 462 ti462 := ⟨Tryz.underlying462, Tryz.isAgg462, Tryz.sizeOf462, Tryz.zeroValue462, ⟨Tryz.t462, Tryz.typeInfo462, rfl⟩, (fun h => by cases h)⟩
theorem ti463_ok : TOk Tryz.prog 463 ti463 := ⟨Tryz.underlying463, Tryz.isAgg463, Tryz.sizeOf463, Tryz.zeroValue463, ⟨Tryz.t463, Tryz.typeInfo463, rfl⟩, (fun h => by cases h)⟩
theorem ti464_ok : TOk Tryz.prog 464 ti464 := ⟨Tryz.underlying464, Tryz.isAgg464, Tryz.sizeOf464, Tryz.zeroValue464, ⟨Tryz.t464, Tryz.typeInfo464, rfl⟩, (fun h => by cases h)⟩
theorem ti465_ok : TOk Tryz.prog 465 ti465 := ⟨Tryz.underlying465, Tryz.isAgg465, Tryz.sizeOf465, Tryz.zeroValue465, ⟨Tryz.t465, Tryz.typeInfo465, rfl⟩, (fun h => by cases h)⟩
theorem ti466_ok : TOk Tryz.prog 466 ti466 := ⟨Tryz.underlying466, Tryz.isAgg466, Tryz.sizeOf466, Tryz.zeroValue466, ⟨Tryz.t466, Tryz.typeInfo466, rfl⟩, (fun h => by cases h)⟩
theorem ti467_ok : TOk Tryz.prog 467 ti467 := ⟨Tryz.underlying467, Tryz.isAgg467, Tryz.sizeOf467, Tryz.zeroValue467, ⟨Tryz.t467, Tryz.typeInfo467, rfl⟩, (fun h => by cases h)⟩
theorem ti468_ok : TOk Tryz.prog 468 ti468 := ⟨Tryz.underlying468, Tryz.isAgg468, Tryz.sizeOf468, Tryz.zeroValue468, ⟨Tryz.t468, Tryz.typeInfo468, rfl⟩, (fun h => by cases h)⟩
theorem ti469_ok : TOk Tryz.prog 469 ti469 := ⟨Tryz.underlying469, Tryz.isAgg469, Tryz.sizeOf469, Tryz.zeroValue469, ⟨Tryz.t469, Tryz.typeInfo469, rfl⟩, (fun h => by cases h)⟩
theorem ti470_ok : TOk Tryz.prog 470 ti470 := ⟨Tryz.underlying470, Tryz.isAgg470, Tryz.sizeOf470, Tryz.zeroValue470, ⟨Tryz.t470, Tryz.typeInfo470, rfl⟩, (fun h => by cases h)⟩
theorem ti471_ok : TOk Tryz.prog 471 ti471 := ⟨Tryz.underlying471, Tryz.isAgg471, Tryz.sizeOf471, Tryz.zeroValue471, ⟨Tryz.t471, Tryz.typeInfo471, rfl⟩, (fun h => by cases h)⟩
theorem ti472_ok : TOk Tryz.prog 472 ti472 := ⟨Tryz.underlying472, Tryz.isAgg472, Tryz.sizeOf472, Tryz.zeroValue472, ⟨Tryz.t472, Tryz.typeInfo472, rfl⟩, (fun h => by cases h)⟩
theorem ti473_ok : TOk Tryz.prog 473 ti473 := ⟨Tryz.underlying473, Tryz.isAgg473, Tryz.sizeOf473, Tryz.zeroValue473, ⟨Tryz.t473, Tryz.typeInfo473, rfl⟩, (fun h => by cases h)⟩
theorem ti474_ok : TOk Tryz.prog 474 ti474 := ⟨Tryz.underlying474, Tryz.isAgg474, Tryz.sizeOf474, Tryz.zeroValue474, ⟨Tryz.t474, Tryz.typeInfo474, rfl⟩, (fun h => by cases h)⟩
theorem ti475_ok : TOk Tryz.prog 475 ti475 := ⟨Tryz.underlying475, Tryz.isAgg475, Tryz.sizeOf475, Tryz.zeroValue475, ⟨Tryz.t475, Tryz.typeInfo475, rfl⟩, (fun h => by cases h)⟩
theorem ti476_ok : TOk Tryz.prog 476 ti476 := ⟨Tryz.underlying476, Tryz.isAgg476, Tryz.sizeOf476, Tryz.zeroValue476, ⟨Tryz.t476, Tryz.typeInfo476, rfl⟩, (fun h => by cases h)⟩
theorem ti477_ok : TOk Tryz.prog 477 ti477 := ⟨Tryz.underlying477, Tryz.isAgg477, Tryz.sizeOf477, Tryz.zeroValue477, ⟨Tryz.t477, Tryz.typeInfo477, rfl⟩, (fun h => by cases h)⟩
theorem ti478_ok : TOk Tryz.prog 478 ti478 := ⟨Tryz.underlying478, Tryz.isAgg478, Tryz.sizeOf478, Tryz.zeroValue478, ⟨Tryz.t478, Tryz.typeInfo478, rfl⟩, (fun h => by cases h)⟩
theorem ti479_ok : TOk Tryz.prog 479 ti479 := ⟨Tryz.underlying479, Tryz.isAgg479, Tryz.sizeOf479, Tryz.zeroValue479, ⟨Tryz.t479, Tryz.typeInfo479, rfl⟩, (fun h => by cases h)⟩
theorem ti480_ok : TOk Tryz.prog 480 ti480 := ⟨Tryz.underlying480, Tryz.isAgg480, Tryz.sizeOf480, Tryz.zeroValue480, ⟨Tryz.t480, Tryz.typeInfo480, rfl⟩, (fun h => by cases h)⟩
theorem ti481_ok : TOk Tryz.prog 481 ti481 := ⟨Tryz.underlying481, Tryz.isAgg481, Tryz.sizeOf481, Tryz.zeroValue481, ⟨Tryz.t481, Tryz.typeInfo481, rfl⟩, (fun h => by cases h)⟩
theorem ti482_ok : TOk Tryz.prog 482 ti482 := ⟨Tryz.underlying482, Tryz.isAgg482, Tryz.sizeOf482, Tryz.zeroValue482, ⟨Tryz.t482, Tryz.typeInfo482, rfl⟩, (fun h => by cases h)⟩
theorem ti483_ok : TOk Tryz.prog 483 ti483 := ⟨Tryz.underlying483, Tryz.isAgg483, Tryz.sizeOf483, Tryz.zeroValue483, ⟨Tryz.t483, Tryz.typeInfo483, rfl⟩, (fun h => by cases h)⟩
theorem ti484_ok : TOk Tryz.prog 484 ti484 := ⟨Tryz.underlying484, Tryz.isAgg484, Tryz.sizeOf484, Tryz.zeroValue484, ⟨Tryz.t484, Tryz.typeInfo484, rfl⟩, (fun h => by cases h)⟩
theorem ti485_ok : TOk Tryz.prog 485 ti485 := ⟨Tryz.underlying485, Tryz.isAgg485, Tryz.sizeOf485, Tryz.zeroValue485, ⟨Tryz.t485, Tryz.typeInfo485, rfl⟩, (fun h => by cases h)⟩
theorem ti486_ok : TOk Tryz.prog 486 ti486 := ⟨Tryz.underlying486, Tryz.isAgg486, Tryz.sizeOf486, Tryz.zeroValue486, ⟨Tryz.t486, Tryz.typeInfo486, rfl⟩, (fun h => by cases h)⟩
theorem ti487_ok : TOk Tryz.prog 487 ti487 := ⟨Tryz.underlying487, Tryz.isAgg487, Tryz.sizeOf487, Tryz.zeroValue487, ⟨Tryz.t487, Tryz.typeInfo487, rfl⟩, (fun h => by cases h)⟩
theorem ti488_ok : TOk Tryz.prog 488 ti488 := ⟨Tryz.underlying488, Tryz.isAgg488, Tryz.sizeOf488, Tryz.zeroValue488, ⟨Tryz.t488, Tryz.typeInfo488, rfl⟩, (fun h => by cases h)⟩
theorem ti489_ok : TOk Tryz.prog 489 ti489 := ⟨Tryz.underlying489, Tryz.isAgg489, Tryz.sizeOf489, Tryz.zeroValue489, ⟨Tryz.t489, Tryz.typeInfo489, rfl⟩, (fun h => by cases h)⟩
theorem ti490_ok : TOk Tryz.prog 490 ti490 := ⟨Tryz.underlying490, Tryz.isAgg490, Tryz.sizeOf490, Tryz.zeroValue490, ⟨Tryz.t490, Tryz.typeInfo490, rfl⟩, (fun h => by cases h)⟩
theorem ti491_ok : TOk Tryz.prog 491 ti491 := ⟨Tryz.underlying491, Tryz.isAgg491, Tryz.sizeOf491, Tryz.zeroValue491, ⟨Tryz.t491, Tryz.typeInfo491, rfl⟩, (fun h => by cases h)⟩
theorem ti492_ok : TOk Tryz.prog 492 ti492 := ⟨Tryz.underlying492, Tryz.isAgg492, Tryz.sizeOf492, Tryz.zeroValue492, ⟨Tryz.t492, Tryz.typeInfo492, rfl⟩, (fun h => by cases h)⟩
theorem ti493_ok : TOk Tryz.prog 493 ti493 := ⟨Tryz.underlying493, Tryz.isAgg493, Tryz.sizeOf493, Tryz.zeroValue493, ⟨Tryz.t493, Tryz.typeInfo493, rfl⟩, (fun h => by cases h)⟩
theorem ti494_ok : TOk Tryz.prog 494 ti494 := ⟨Tryz.underlying494, Tryz.isAgg494, Tryz.sizeOf494, Tryz.zeroValue494, ⟨Tryz.t494, Tryz.typeInfo494, rfl⟩, (fun h => by cases h)⟩
theorem ti495_ok : TOk Tryz.prog 495 ti495 := ⟨Tryz.underlying495, Tryz.isAgg495, Tryz.sizeOf495, Tryz.zeroValue495, ⟨Tryz.t495, Tryz.typeInfo495, rfl⟩, (fun h => by cases h)⟩
theorem ti496_ok : TOk Tryz.prog 496 ti496 := ⟨Tryz.underlying496, Tryz.isAgg496, Tryz.sizeOf496, Tryz.zeroValue496, ⟨Tryz.t496, Tryz.typeInfo496, rfl⟩, (fun h => by cases h)⟩
theorem ti497_ok : TOk Tryz.prog 497 ti497 := ⟨Tryz.underlying497, Tryz.isAgg497, Tryz.sizeOf497, Tryz.zeroValue497, ⟨Tryz.t497, Tryz.typeInfo497, rfl⟩, (fun h => by cases h)⟩
theorem ti498_ok : TOk Tryz.prog 498 ti498 := ⟨Tryz.underlying498, Tryz.isAgg498, Tryz.sizeOf498, Tryz.zeroValue498, ⟨Tryz.t498, Tryz.typeInfo498, rfl⟩, (fun h => by cases h)⟩
theorem ti499_ok : TOk Tryz.prog 499 ti499 := ⟨Tryz.underlying499, Tryz.isAgg499, Tryz.sizeOf499, Tryz.zeroValue499, ⟨Tryz.t499, Tryz.typeInfo499, rfl⟩, (fun h => by cases h)⟩
theorem ti500_ok : TOk Tryz.prog 500 ti500 := ⟨Tryz.underlying500, Tryz.isAgg500, Tryz.sizeOf500, Tryz.zeroValue500, ⟨Tryz.t500, Tryz.typeInfo500, rfl⟩, (fun h => by cases h)⟩
theorem ti501_ok : TOk Tryz.prog 501 ti501 := ⟨Tryz.underlying501, Tryz.isAgg501, Tryz.sizeOf501, Tryz.zeroValue501, ⟨Tryz.t501, Tryz.typeInfo501, rfl⟩, (fun h => by cases h)⟩
theorem ti502_ok : TOk Tryz.prog 502 ti502 := ⟨Tryz.underlying502, Tryz.isAgg502, Tryz.sizeOf502, Tryz.zeroValue502, ⟨Tryz.t502, Tryz.typeInfo502, rfl⟩, (fun h => by cases h)⟩
theorem ti503_ok : TOk Tryz.prog 503 ti503 := ⟨Tryz.underlying503, Tryz.isAgg503, Tryz.sizeOf503, Tryz.zeroValue503, ⟨Tryz.t503, Tryz.typeInfo503, rfl⟩, (fun h => by cases h)⟩
theorem ti504_ok : TOk Tryz.prog 504 ti504 := ⟨Tryz.underlying504, Tryz.isAgg504, Tryz.sizeOf504, Tryz.zeroValue504, ⟨Tryz.t504, Tryz.typeInfo504, rfl⟩, (fun h => by cases h)⟩
theorem ti505_ok : TOk Tryz.prog 505 ti505 := ⟨Tryz.underlying505, Tryz.isAgg505, Tryz.sizeOf505, Tryz.zeroValue505, ⟨Tryz.t505, Tryz.typeInfo505, rfl⟩, (fun h => by cases h)⟩
theorem ti506_ok : TOk Tryz.prog 506 ti506 := ⟨Tryz.underlying506, Tryz.isAgg506, Tryz.sizeOf506, Tryz.zeroValue506, ⟨Tryz.t506, Tryz.typeInfo506, rfl⟩, (fun h => by cases h)⟩
theorem ti507_ok : TOk Tryz.prog 507 ti507 := ⟨Tryz.underlying507, Tryz.isAgg507, Tryz.sizeOf507, Tryz.zeroValue507, ⟨Tryz.t507, Tryz.typeInfo507, rfl⟩, (fun h => by cases h)⟩
theorem ti508_ok : TOk Tryz.prog 508 ti508 := ⟨Tryz.underlying508, Tryz.isAgg508, Tryz.sizeOf508, Tryz.zeroValue508, ⟨Tryz.t508, Tryz.typeInfo508, rfl⟩, (fun h => by cases h)⟩
theorem ti509_ok : TOk Tryz.prog 509 ti509 := ⟨Tryz.underlying509, Tryz.isAgg509, Tryz.sizeOf509, Tryz.zeroValue509, ⟨Tryz.t509, Tryz.typeInfo509, rfl⟩, (fun h => by cases h)⟩
theorem ti510_ok : TOk Tryz.prog 510 ti510 := ⟨Tryz.underlying510, Tryz.isAgg510, Tryz.sizeOf510, Tryz.zeroValue510, ⟨Tryz.t510, Tryz.typeInfo510, rfl⟩, (fun h => by cases h)⟩
theorem ti511_ok : TOk Tryz.prog 511 ti511 := ⟨Tryz.underlying511, Tryz.isAgg511, Tryz.sizeOf511, Tryz.zeroValue511, ⟨Tryz.t511, Tryz.typeInfo511, rfl⟩, (fun h => by cases h)⟩
theorem ti512_ok : TOk Tryz.prog 512 ti512 := ⟨Tryz.underlying512, Tryz.isAgg512, Tryz.sizeOf512, Tryz.zeroValue512, ⟨Tryz.t512, Tryz.typeInfo512, rfl⟩, (fun h => by cases h)⟩
theorem ttlllllllll_ok : TrAll (fun i v => TOk Tryz.prog i v ∧ v.zero.cells.size = v.size) 512 511 ttlllllllll := ⟨(fun v h => by cases h; exact ⟨ti511_ok, rfl⟩), trivial, trivial⟩
theorem ttllllllll_ok : TrAll (fun i v => TOk Tryz.prog i v ∧ v.zero.cells.size = v.size) 256 255 ttllllllll := ⟨(fun v h => by cases h; exact ⟨ti255_ok, rfl⟩), ttlllllllll_ok, trivial⟩
theorem ttlllllllr_ok : TrAll (fun i v => TOk Tryz.prog i v ∧ v.zero.cells.size = v.size) 256 383 ttlllllllr := ⟨(fun v h => by cases h; exact ⟨ti383_ok, rfl⟩), trivial, trivial⟩
theorem ttlllllll_ok : TrAll (fun i v => TOk Tryz.prog i v ∧ v.zero.cells.size = v.size) 128 127 ttlllllll := ⟨(fun v h => by cases h; exact ⟨ti127_ok, rfl⟩), ttllllllll_ok, ttlllllllr_ok⟩
theorem ttllllllrl_ok : TrAll (fun i v => TOk Tryz.prog i v ∧ v.zero.cells.size = v.size) 256 319 ttllllllrl := ⟨(fun v h => by cases h; exact ⟨ti319_ok, rfl⟩), trivial, trivial⟩
theorem ttllllllrr_ok : TrAll (fun i v => TOk Tryz.prog i v ∧ v.zero.cells.size = v.size) 256 447 ttllllllrr := ⟨(fun v h => by cases h; exact ⟨ti447_ok, rfl⟩), trivial, trivial⟩
theorem ttllllllr_ok : TrAll (fun i v => TOk Tryz.prog i v ∧ v.zero.cells.size = v.size) 128 191 ttllllllr := ⟨(fun v h => by cases h; exact ⟨ti191_ok, rfl⟩), ttllllllrl_ok, ttllllllrr_ok⟩
theorem ttllllll_ok : TrAll (fun i v => TOk Tryz.prog i v ∧ v.zero.cells.size = v.size) 64 63 ttllllll := ⟨(fun v h => by cases h; exact ⟨ti63_ok, rfl⟩), ttlllllll_ok, ttllllllr_ok⟩
theorem ttlllllrll_ok : TrAll (fun i v => TOk Tryz.prog i v ∧ v.zero.cells.size = v.size) 256 287 ttlllllrll := ⟨(fun v h => by cases h; exact ⟨ti287_ok, rfl⟩), trivial, trivial⟩
theorem ttlllllrlr_ok : TrAll (fun i v => TOk Tryz.prog i v ∧ v.zero.cells.size = v.size) 256 415 ttlllllrlr := ⟨(fun v h => by cases h; exact ⟨ti415_ok, rfl⟩), trivial, trivial⟩
theorem ttlllllrl_ok : TrAll (fun i v => TOk Tryz.prog i v ∧ v.zero.cells.size = v.size) 128 159 ttlllllrl := ⟨(fun v h => by cases h; exact ⟨ti159_ok, rfl⟩), ttlllllrll_ok, ttlllllrlr_ok⟩
theorem ttlllllrrl_ok : TrAll (fun i v => TOk Tryz.prog i v ∧ v.zero.cells.size = v.size) 256 351 ttlllllrrl := ⟨(fun v h => by cases h; exact ⟨ti351_ok, rfl⟩), trivial, trivial⟩
theorem ttlllllrrr_ok : TrAll (fun i v => TOk Tryz.prog i v ∧ v.zero.cells.size = v.size) 256 479 ttlllllrrr := ⟨(fun v h => by cases h; exact ⟨ti479_ok, rfl⟩), trivial, trivial⟩
theorem ttlllllrr_ok : TrAll (fun i v => TOk Tryz.prog i v ∧ v.zero.cells.size = v.size) 128 223 ttlllllrr := ⟨(fun v h => by cases h; exact ⟨ti223_ok, rfl⟩), ttlllllrrl_ok, ttlllllrrr_ok⟩
theorem ttlllllr_ok : TrAll (fun i v => TOk Tryz.prog i v ∧ v.zero.cells.size = v.size) 64 95 ttlllllr := ⟨(fun v h => by cases h; exact ⟨ti95_ok, rfl⟩), ttlllllrl_ok, ttlllllrr_ok⟩
theorem ttlllll_ok : TrAll (fun i v => TOk Tryz.prog i v ∧ v.zero.cells.size = v.size) 32 31 ttlllll := ⟨(fun v h => by cases h; exact ⟨ti31_ok, rfl⟩), ttllllll_ok, ttlllllr_ok⟩
theorem ttllllrlll_ok : TrAll (fun i v => TOk Tryz.prog i v ∧ v.zero.cells.size = v.size) 256 271 ttllllrlll := ⟨(fun v h => by cases h; exact ⟨ti271_ok, rfl⟩), trivial, trivial⟩
theorem ttllllrllr_ok : TrAll (fun i v => TOk Tryz.prog i v ∧ v.zero.cells.size = v.size) 256 399 ttllllrllr := ⟨(fun v h => by cases h; exact ⟨ti399_ok, rfl⟩), trivial, trivial⟩
theorem ttllllrll_ok : TrAll (fun i v => TOk Tryz.prog i v ∧ v.zero.cells.size = v.size) 128 143 ttllllrll := ⟨(fun v h => by cases h; exact ⟨ti143_ok, rfl⟩), ttllllrlll_ok, ttllllrllr_ok⟩
theorem ttllllrlrl_ok : TrAll (fun i v => TOk Tryz.prog i v ∧ v.zero.cells.size = v.size) 256 335 ttllllrlrl := ⟨(fun v h => by cases h; exact ⟨ti335_ok, rfl⟩), trivial, trivial⟩
theorem ttllllrlrr_ok : TrAll (fun i v => TOk Tryz.prog i v ∧ v.zero.cells.size = v.size) 256 463 ttllllrlrr := ⟨(fun v h => by cases h; exact ⟨ti463_ok, rfl⟩), trivial, trivial⟩
theorem ttllllrlr_ok : TrAll (fun i v => TOk Tryz.prog i v ∧ v.zero.cells.size = v.size) 128 207 ttllllrlr := ⟨(fun v h => by cases h; exact ⟨ti207_ok, rfl⟩), ttllllrlrl_ok, ttllllrlrr_ok⟩
theorem ttllllrl_ok : TrAll (fun i v => TOk Tryz.prog i v ∧ v.zero.cells.size = v.size) 64 79 ttllllrl := ⟨(fun v h => by cases h; exact ⟨ti79_ok, rfl⟩), ttllllrll_ok, ttllllrlr_ok⟩
theorem ttllllrrll_ok : TrAll (fun i v => TOk Tryz.prog i v ∧ v.zero.cells.size = v.size) 256 303 ttllllrrll := ⟨(fun v h => by cases h; exact ⟨ti303_ok, rfl⟩), trivial, trivial⟩
theorem ttllllrrlr_ok : TrAll (fun i v => TOk Tryz.prog i v ∧ v.zero.cells.size = v.size) 256 431 ttllllrrlr := ⟨(fun v h => by cases h; exact ⟨ti431_ok, rfl⟩), trivial, trivial⟩
theorem ttllllrrl_ok : TrAll (fun i v => TOk Tryz.prog i v ∧ v.zero.cells.size = v.size) 128 175 ttllllrrl := ⟨(fun v h => by cases h; exact ⟨ti175_ok, rfl⟩), ttllllrrll_ok, ttllllrrlr_ok⟩
theorem ttllllrrrl_ok : TrAll (fun i v => TOk Tryz.prog i v ∧ v.zero.cells.size = v.size) 256 367 ttllllrrrl := ⟨(fun v h => by cases h; exact ⟨ti367_ok, rfl⟩), trivial, trivial⟩
theorem ttllllrrrr_ok : TrAll (fun i v => TOk Tryz.prog i v ∧ v.zero.cells.size = v.size) 256 495 ttllllrrrr := ⟨(fun v h => by cases h; exact ⟨ti495_ok, rfl⟩), trivial, trivial⟩
theorem ttllllrrr_ok : TrAll (fun i v => TOk Tryz.prog i v ∧ v.zero.cells.size = v.size) 128 239 ttllllrrr := ⟨(fun v h => by cases h; exact ⟨ti239_ok, rfl⟩), ttllllrrrl_ok, ttllllrrrr_ok⟩
theorem ttllllrr_ok : TrAll (fun i v => TOk Tryz.prog i v ∧ v.zero.cells.size = v.size) 64 111 ttllllrr := ⟨(fun v h => by cases h; exact ⟨ti111_ok, rfl⟩), ttllllrrl_ok, ttllllrrr_ok⟩
theorem ttllllr_ok : TrAll (fun i v => TOk Tryz.prog i v ∧ v.zero.cells.size = v.size) 32 47 ttllllr := ⟨(fun v h => by cases h; exact ⟨ti47_ok, rfl⟩), ttllllrl_ok, ttllllrr_ok⟩
theorem ttllll_ok : TrAll (fun i v => TOk Tryz.prog i v ∧ v.zero.cells.size = v.size) 16 15 ttllll := ⟨(fun v h => by cases h; exact ⟨ti15_ok, rfl⟩), ttlllll_ok, ttllllr_ok⟩
theorem ttlllrllll_ok : TrAll (fun i v => TOk Tryz.prog i v ∧ v.zero.cells.size = v.size) 256 263 ttlllrllll := ⟨(fun v h => by cases h; exact ⟨ti263_ok, rfl⟩), trivial, trivial⟩
theorem ttlllrlllr_ok : TrAll (fun i v => TOk Tryz.prog i v ∧ v.zero.cells.size = v.size) 256 391 ttlllrlllr := ⟨(fun v h => by cases h; exact ⟨ti391_ok, rfl⟩), trivial, trivial⟩
theorem ttlllrlll_ok : TrAll (fun i v => TOk Tryz.prog i v ∧ v.zero.cells.size = v.size) 128 135 ttlllrlll := ⟨(fun v h => by cases h; exact ⟨ti135_ok, rfl⟩), ttlllrllll_ok, ttlllrlllr_ok⟩
theorem ttlllrllrl_ok : TrAll (fun i v => TOk Tryz.prog i v ∧ v.zero.cells.size = v.size) 256 327 ttlllrllrl := ⟨(fun v h => by cases h; exact ⟨ti327_ok, rfl⟩), trivial, trivial⟩
theorem ttlllrllrr_ok : TrAll (fun i v => TOk Tryz.prog i v ∧ v.zero.cells.size = v.size) 256 455 ttlllrllrr := ⟨(fun v h => by cases h; exact ⟨ti455_ok, rfl⟩), trivial, trivial⟩
theorem ttlllrllr_ok : TrAll (fun i v => TOk Tryz.prog i v ∧ v.zero.cells.size = v.size) 128 199 ttlllrllr := ⟨(fun v h => by cases h; exact ⟨ti199_ok, rfl⟩), ttlllrllrl_ok, ttlllrllrr_ok⟩
theorem ttlllrll_ok : TrAll (fun i v => TOk Tryz.prog i v ∧ v.zero.cells.size = v.size) 64 71 ttlllrll := ⟨(fun v h => by cases h; exact ⟨ti71_ok, rfl⟩), ttlllrlll_ok, ttlllrllr_ok⟩
theorem ttlllrlrll_ok : TrAll (fun i v => TOk Tryz.prog i v ∧ v.zero.cells.size = v.size) 256 295 ttlllrlrll := ⟨(fun v h => by cases h; exact ⟨ti295_ok, rfl⟩), trivial, trivial⟩
theorem ttlllrlrlr_ok : TrAll (fun i v => TOk Tryz.prog i v ∧ v.zero.cells.size = v.size) 256 423 ttlllrlrlr := ⟨(fun v h => by cases h; exact ⟨ti423_ok, rfl⟩), trivial, trivial⟩
theorem ttlllrlrl_ok : TrAll (fun i v => TOk Tryz.prog i v ∧ v.zero.cells.size = v.size) 128 167 ttlllrlrl := ⟨(fun v h => by cases h; exact ⟨ti167_ok, rfl⟩), ttlllrlrll_ok, ttlllrlrlr_ok⟩
theorem ttlllrlrrl_ok : TrAll (fun i v => TOk Tryz.prog i v ∧ v.zero.cells.size = v.size) 256 359 ttlllrlrrl := ⟨(fun v h => by cases h; exact ⟨ti359_ok, rfl⟩), trivial, trivial⟩
theorem ttlllrlrrr_ok : TrAll (fun i v => TOk Tryz.prog i v ∧ v.zero.cells.size = v.size) 256 487 ttlllrlrrr := ⟨(fun v h => by cases h; exact ⟨ti487_ok, rfl⟩), trivial, trivial⟩
theorem ttlllrlrr_ok : TrAll (fun i v => TOk Tryz.prog i v ∧ v.zero.cells.size = v.size) 128 231 ttlllrlrr := ⟨(fun v h => by cases h; exact ⟨ti231_ok, rfl⟩), ttlllrlrrl_ok, ttlllrlrrr_ok⟩
theorem ttlllrlr_ok : TrAll (fun i v => TOk Tryz.prog i v ∧ v.zero.cells.size = v.size) 64 103 ttlllrlr := ⟨(fun v h => by cases h; exact ⟨ti103_ok, rfl⟩), ttlllrlrl_ok, ttlllrlrr_ok⟩
theorem ttlllrl_ok : TrAll (fun i v => TOk Tryz.prog i v ∧ v.zero.cells.size = v.size) 32 39 ttlllrl := ⟨(fun v h => by cases h; exact ⟨ti39_ok, rfl⟩), ttlllrll_ok, ttlllrlr_ok⟩
theorem ttlllrrlll_ok : TrAll (fun i v => TOk Tryz.prog i v ∧ v.zero.cells.size = v.size) 256 279 ttlllrrlll := ⟨(fun v h => by cases h; exact ⟨ti279_ok, rfl⟩), trivial, trivial⟩
theorem ttlllrrllr_ok : TrAll (fun i v => TOk Tryz.prog i v ∧ v.zero.cells.size = v.size) 256 407 ttlllrrllr := ⟨(fun v h => by cases h; exact ⟨ti407_ok, rfl⟩), trivial, trivial⟩
theorem ttlllrrll_ok : TrAll (fun i v => TOk Tryz.prog i v ∧ v.zero.cells.size = v.size) 128 151 ttlllrrll := ⟨(fun v h => by cases h; exact ⟨ti151_ok, rfl⟩), ttlllrrlll_ok, ttlllrrllr_ok⟩
theorem ttlllrrlrl_ok : TrAll (fun i v => TOk Tryz.prog i v ∧ v.zero.cells.size = v.size) 256 343 ttlllrrlrl := ⟨(fun v h => by cases h; exact ⟨ti343_ok, rfl⟩), trivial, trivial⟩
theorem ttlllrrlrr_ok : TrAll (fun i v => TOk Tryz.prog i v ∧ v.zero.cells.size = v.size) 256 471 ttlllrrlrr := ⟨(fun v h => by cases h; exact ⟨ti471_ok, rfl⟩), trivial, trivial⟩
theorem ttlllrrlr_ok : TrAll (fun i v => TOk Tryz.prog i v ∧ v.zero.cells.size = v.size) 128 215 ttlllrrlr := ⟨(fun v h => by cases h; exact ⟨ti215_ok, rfl⟩), ttlllrrlrl_ok, ttlllrrlrr_ok⟩
theorem ttlllrrl_ok : TrAll (fun i v => TOk Tryz.prog i v ∧ v.zero.cells.size = v.size) 64 87 ttlllrrl := ⟨(fun v h => by cases h; exact ⟨ti87_ok, rfl⟩), ttlllrrll_ok, ttlllrrlr_ok⟩
theorem ttlllrrrll_ok : TrAll (fun i v => TOk Tryz.prog i v ∧ v.zero.cells.size = v.size) 256 311 ttlllrrrll := ⟨(fun v h => by cases h; exact ⟨ti311_ok, rfl⟩), trivial, trivial⟩
theorem ttlllrrrlr_ok : TrAll (fun i v => TOk Tryz.prog i v ∧ v.zero.cells.size = v.size) 256 439 ttlllrrrlr := ⟨(fun v h => by cases h; exact ⟨ti439_ok, rfl⟩), trivial, trivial⟩
theorem ttlllrrrl_ok : TrAll (fun i v => TOk Tryz.prog i v ∧ v.zero.cells.size = v.size) 128 183 ttlllrrrl := ⟨(fun v h => by cases h; exact ⟨ti183_ok, rfl⟩), ttlllrrrll_ok, ttlllrrrlr_ok⟩
theorem ttlllrrrrl_ok : TrAll (fun i v => TOk Tryz.prog i v ∧ v.zero.cells.size = v.size) 256 375 ttlllrrrrl := ⟨(fun v h => by cases h; exact ⟨ti375_ok, rfl⟩), trivial, trivial⟩
theorem ttlllrrrrr_ok : TrAll (fun i v => TOk Tryz.prog i v ∧ v.zero.cells.size = v.size) 256 503 ttlllrrrrr := ⟨(fun v h => by cases h; exact ⟨ti503_ok, rfl⟩), trivial, trivial⟩
theorem ttlllrrrr_ok : TrAll (fun i v => TOk Tryz.prog i v ∧ v.zero.cells.size = v.size) 128 247 ttlllrrrr := ⟨(fun v h => by cases h; exact ⟨ti247_ok, rfl⟩), ttlllrrrrl_ok, ttlllrrrrr_ok⟩
theorem ttlllrrr_ok : TrAll (fun i v => TOk Tryz.prog i v ∧ v.zero.cells.size = v.size) 64 119 ttlllrrr := ⟨(fun v h => by cases h; exact ⟨ti119_ok, rfl⟩), ttlllrrrl_ok, ttlllrrrr_ok⟩
theorem ttlllrr_ok : TrAll (fun i v => TOk Tryz.prog i v ∧ v.zero.cells.size = v.size) 32 55 ttlllrr := ⟨(fun v h => by cases h; exact ⟨ti55_ok, rfl⟩), ttlllrrl_ok, ttlllrrr_ok⟩
theorem ttlllr_ok : TrAll (fun i v => TOk Tryz.prog i v ∧ v.zero.cells.size = v.size) 16 23 ttlllr := ⟨(fun v h => by cases h; exact ⟨ti23_ok, rfl⟩), ttlllrl_ok, ttlllrr_ok⟩
theorem ttlll_ok : TrAll (fun i v => TOk Tryz.prog i v ∧ v.zero.cells.size = v.size) 8 7 ttlll := ⟨(fun v h => by cases h; exact ⟨ti7_ok, rfl⟩), ttllll_ok, ttlllr_ok⟩
theorem ttllrlllll_ok : TrAll (fun i v => TOk Tryz.prog i v ∧ v.zero.cells.size = v.size) 256 259 ttllrlllll := ⟨(fun v h => by cases h; exact ⟨ti259_ok, rfl⟩), trivial, trivial⟩
theorem ttllrllllr_ok : TrAll (fun i v => TOk Tryz.prog i v ∧ v.zero.cells.size = v.size) 256 387 ttllrllllr := ⟨(fun v h => by cases h; exact ⟨ti387_ok, rfl⟩), trivial, trivial⟩
theorem ttllrllll_ok : TrAll (fun i v => TOk Tryz.prog i v ∧ v.zero.cells.size = v.size) 128 131 ttllrllll := ⟨(fun v h => by cases h; exact ⟨ti131_ok, rfl⟩), ttllrlllll_ok, ttllrllllr_ok⟩
theorem ttllrlllrl_ok : TrAll (fun i v => TOk Tryz.prog i v ∧ v.zero.cells.size = v.size) 256 323 ttllrlllrl := ⟨(fun v h => by cases h; exact ⟨ti323_ok, rfl⟩), trivial, trivial⟩
theorem ttllrlllrr_ok : TrAll (fun i v => TOk Tryz.prog i v ∧ v.zero.cells.size = v.size) 256 451 ttllrlllrr := ⟨(fun v h => by cases h; exact ⟨ti451_ok, rfl⟩), trivial, trivial⟩
theorem ttllrlllr_ok : TrAll (fun i v => TOk Tryz.prog i v ∧ v.zero.cells.size = v.size) 128 195 ttllrlllr := ⟨(fun v h => by cases h; exact ⟨ti195_ok, rfl⟩), ttllrlllrl_ok, ttllrlllrr_ok⟩
theorem ttllrlll_ok : TrAll (fun i v => TOk Tryz.prog i v ∧ v.zero.cells.size = v.size) 64 67 ttllrlll := ⟨(fun v h => by cases h; exact ⟨ti67_ok, rfl⟩), ttllrllll_ok, ttllrlllr_ok⟩
theorem ttllrllrll_ok : TrAll (fun i v => TOk Tryz.prog i v ∧ v.zero.cells.size = v.size) 256 291 ttllrllrll := ⟨(fun v h => by cases h; exact ⟨ti291_ok, rfl⟩), trivial, trivial⟩
theorem ttllrllrlr_ok : TrAll (fun i v => TOk Tryz.prog i v ∧ v.zero.cells.size = v.size) 256 419 ttllrllrlr := ⟨(fun v h => by cases h; exact ⟨ti419_ok, rfl⟩), trivial, trivial⟩
theorem ttllrllrl_ok : TrAll (fun i v => TOk Tryz.prog i v ∧ v.zero.cells.size = v.size) 128 163 ttllrllrl := ⟨(fun v h => by cases h; exact ⟨ti163_ok, rfl⟩), ttllrllrll_ok, ttllrllrlr_ok⟩
theorem ttllrllrrl_ok : TrAll (fun i v => TOk Tryz.prog i v ∧ v.zero.cells.size = v.size) 256 355 ttllrllrrl := ⟨(fun v h => by cases h; exact ⟨ti355_ok, rfl⟩), trivial, trivial⟩
theorem ttllrllrrr_ok : TrAll (fun i v => TOk Tryz.prog i v ∧ v.zero.cells.size = v.size) 256 483 ttllrllrrr := ⟨(fun v h => by cases h; exact ⟨ti483_ok, rfl⟩), trivial, trivial⟩
theorem ttllrllrr_ok : TrAll (fun i v => TOk Tryz.prog i v ∧ v.zero.cells.size = v.size) 128 227 ttllrllrr := ⟨(fun v h => by cases h; exact ⟨ti227_ok, rfl⟩), ttllrllrrl_ok, ttllrllrrr_ok⟩
theorem ttllrllr_ok : TrAll (fun i v => TOk Tryz.prog i v ∧ v.zero.cells.size = v.size) 64 99 ttllrllr := ⟨(fun v h => by cases h; exact ⟨ti99_ok, rfl⟩), ttllrllrl_ok, ttllrllrr_ok⟩
theorem ttllrll_ok : TrAll (fun i v => TOk Tryz.prog i v ∧ v.zero.cells.size = v.size) 32 35 ttllrll := ⟨(fun v h => by cases h; exact ⟨ti35_ok, rfl⟩), ttllrlll_ok, ttllrllr_ok⟩
theorem ttllrlrlll_ok : TrAll (fun i v => TOk Tryz.prog i v ∧ v.zero.cells.size = v.size) 256 275 ttllrlrlll := ⟨(fun v h => by cases h; exact ⟨ti275_ok, rfl⟩), trivial, trivial⟩
theorem ttllrlrllr_ok : TrAll (fun i v => TOk Tryz.prog i v ∧ v.zero.cells.size = v.size) 256 403 ttllrlrllr := ⟨(fun v h => by cases h; exact ⟨ti403_ok, rfl⟩), trivial, trivial⟩
theorem ttllrlrll_ok : TrAll (fun i v => TOk Tryz.prog i v ∧ v.zero.cells.size = v.size) 128 147 ttllrlrll := ⟨(fun v h => by cases h; exact ⟨ti147_ok, rfl⟩), ttllrlrlll_ok, ttllrlrllr_ok⟩
theorem ttllrlrlrl_ok : TrAll (fun i v => TOk Tryz.prog i v ∧ v.zero.cells.size = v.size) 256 339 ttllrlrlrl := ⟨(fun v h => by cases h; exact ⟨ti339_ok, rfl⟩), trivial, trivial⟩
theorem ttllrlrlrr_ok : TrAll (fun i v => TOk Tryz.prog i v ∧ v.zero.cells.size = v.size) 256 467 ttllrlrlrr := ⟨(fun v h => by cases h; exact ⟨ti467_ok, rfl⟩), trivial, trivial⟩
theorem ttllrlrlr_ok : TrAll (fun i v => TOk Tryz.prog i v ∧ v.zero.cells.size = v.size) 128 211 ttllrlrlr := ⟨(fun v h => by cases h; exact ⟨ti211_ok, rfl⟩), ttllrlrlrl_ok, ttllrlrlrr_ok⟩
theorem ttllrlrl_ok : TrAll (fun i v => TOk Tryz.prog i v ∧ v.zero.cells.size = v.size) 64 83 ttllrlrl := ⟨(fun v h => by cases h; exact ⟨ti83_ok, rfl⟩), ttllrlrll_ok, ttllrlrlr_ok⟩
theorem ttllrlrrll_ok : TrAll (fun i v => TOk Tryz.prog i v ∧ v.zero.cells.size = v.size) 256 307 ttllrlrrll := ⟨(fun v h => by cases h; exact ⟨ti307_ok, rfl⟩), trivial, trivial⟩
theorem ttllrlrrlr_ok : TrAll (fun i v => TOk Tryz.prog i v ∧ v.zero.cells.size = v.size) 256 435 ttllrlrrlr := ⟨(fun v h => by cases h; exact ⟨ti435_ok, rfl⟩), trivial, trivial⟩
theorem ttllrlrrl_ok : TrAll (fun i v => TOk Tryz.prog i v ∧ v.zero.cells.size = v.size) 128 179 ttllrlrrl := ⟨(fun v h => by cases h; exact ⟨ti179_ok, rfl⟩), ttllrlrrll_ok, ttllrlrrlr_ok⟩
theorem ttllrlrrrl_ok : TrAll (fun i v => TOk Tryz.prog i v ∧ v.zero.cells.size = v.size) 256 371 ttllrlrrrl := ⟨(fun v h => by cases h; exact ⟨ti371_ok, rfl⟩), trivial, trivial⟩
theorem ttllrlrrrr_ok : TrAll (fun i v => TOk Tryz.prog i v ∧ v.zero.cells.size = v.size) 256 499 ttllrlrrrr := ⟨(fun v h => by cases h; exact ⟨ti499_ok, rfl⟩), trivial, trivial⟩
theorem ttllrlrrr_ok : TrAll (fun i v => TOk Tryz.prog i v ∧ v.zero.cells.size = v.size) 128 243 ttllrlrrr := ⟨(fun v h => by cases h; exact ⟨ti243_ok, rfl⟩), ttllrlrrrl_ok, ttllrlrrrr_ok⟩
theorem ttllrlrr_ok : TrAll (fun i v => TOk Tryz.prog i v ∧ v.zero.cells.size = v.size) 64 115 ttllrlrr := ⟨(fun v h => by cases h; exact ⟨ti115_ok, rfl⟩), ttllrlrrl_ok, ttllrlrrr_ok⟩
theorem ttllrlr_ok : TrAll (fun i v => TOk Tryz.prog i v ∧ v.zero.cells.size = v.size) 32 51 ttllrlr := ⟨(fun v h => by cases h; exact ⟨ti51_ok, rfl⟩), ttllrlrl_ok, ttllrlrr_ok⟩
theorem ttllrl_ok : TrAll (fun i v => TOk Tryz.prog i v ∧ v.zero.cells.size = v.size) 16 19 ttllrl := ⟨(fun v h => by cases h; exact ⟨ti19_ok, rfl⟩), ttllrll_ok, ttllrlr_ok⟩
theorem ttllrrllll_ok : TrAll (fun i v => TOk Tryz.prog i v ∧ v.zero.cells.size = v.size) 256 267 ttllrrllll := ⟨(fun v h => by cases h; exact ⟨ti267_ok, rfl⟩), trivial, trivial⟩
theorem ttllrrlllr_ok : TrAll (fun i v => TOk Tryz.prog i v ∧ v.zero.cells.size = v.size) 256 395 ttllrrlllr := ⟨(fun v h => by cases h; exact ⟨ti395_ok, rfl⟩), trivial, trivial⟩
theorem ttllrrlll_ok : TrAll (fun i v => TOk Tryz.prog i v ∧ v.zero.cells.size = v.size) 128 139 ttllrrlll := ⟨(fun v h => by cases h; exact ⟨ti139_ok, rfl⟩), ttllrrllll_ok, ttllrrlllr_ok⟩
theorem ttllrrllrl_ok : TrAll (fun i v => TOk Tryz.prog i v ∧ v.zero.cells.size = v.size) 256 331 ttllrrllrl := ⟨(fun v h => by cases h; exact ⟨ti331_ok, rfl⟩), trivial, trivial⟩
theorem ttllrrllrr_ok : TrAll (fun i v => TOk Tryz.prog i v ∧ v.zero.cells.size = v.size) 256 459 ttllrrllrr := ⟨(fun v h => by cases h; exact ⟨ti459_ok, rfl⟩), trivial, trivial⟩
theorem ttllrrllr_ok : TrAll (fun i v => TOk Tryz.prog i v ∧ v.zero.cells.size = v.size) 128 203 ttllrrllr := ⟨(fun v h => by cases h; exact ⟨ti203_ok, rfl⟩), ttllrrllrl_ok, ttllrrllrr_ok⟩
theorem ttllrrll_ok : TrAll (fun i v => TOk Tryz.prog i v ∧ v.zero.cells.size = v.size) 64 75 ttllrrll := ⟨(fun v h => by cases h; exact ⟨ti75_ok, rfl⟩), ttllrrlll_ok, ttllrrllr_ok⟩
theorem ttllrrlrll_ok : TrAll (fun i v => TOk Tryz.prog i v ∧ v.zero.cells.size = v.size) 256 299 ttllrrlrll := ⟨(fun v h => by cases h; exact ⟨ti299_ok, rfl⟩), trivial, trivial⟩
theorem ttllrrlrlr_ok : TrAll (fun i v => TOk Tryz.prog i v ∧ v.zero.cells.size = v.size) 256 427 ttllrrlrlr := ⟨(fun v h => by cases h; exact ⟨ti427_ok, rfl⟩), trivial, trivial⟩
theorem ttllrrlrl_ok : TrAll (fun i v => TOk Tryz.prog i v ∧ v.zero.cells.size = v.size) 128 171 ttllrrlrl := ⟨(fun v h => by cases h; exact ⟨ti171_ok, rfl⟩), ttllrrlrll_ok, ttllrrlrlr_ok⟩
theorem ttllrrlrrl_ok : TrAll (fun i v => TOk Tryz.prog i v ∧ v.zero.cells.size = v.size) 256 363 ttllrrlrrl := ⟨(fun v h => by cases h; exact ⟨ti363_ok, rfl⟩), trivial, trivial⟩
theorem ttllrrlrrr_ok : TrAll (fun i v => TOk Tryz.prog i v ∧ v.zero.cells.size = v.size) 256 491 ttllrrlrrr := ⟨(fun v h => by cases h; exact ⟨ti491_ok, rfl⟩), trivial, trivial⟩
theorem ttllrrlrr_ok : TrAll (fun i v => TOk Tryz.prog i v ∧ v.zero.cells.size = v.size) 128 235 ttllrrlrr := ⟨(fun v h => by cases h; exact ⟨ti235_ok, rfl⟩), ttllrrlrrl_ok, ttllrrlrrr_ok⟩
theorem ttllrrlr_ok : TrAll (fun i v => TOk Tryz.prog i v ∧ v.zero.cells.size = v.size) 64 107 ttllrrlr := ⟨(fun v h => by cases h; exact ⟨ti107_ok, rfl⟩), ttllrrlrl_ok, ttllrrlrr_ok⟩
theorem ttllrrl_ok : TrAll (fun i v => TOk Tryz.prog i v ∧ v.zero.cells.size = v.size) 32 43 ttllrrl := ⟨(fun v h => by cases h; exact ⟨ti43_ok, rfl⟩), ttllrrll_ok, ttllrrlr_ok⟩
theorem ttllrrrlll_ok : TrAll (fun i v => TOk Tryz.prog i v ∧ v.zero.cells.size = v.size) 256 283 ttllrrrlll := ⟨(fun v h => by cases h; exact ⟨ti283_ok, rfl⟩), trivial, trivial⟩
theorem ttllrrrllr_ok : TrAll (fun i v => TOk Tryz.prog i v ∧ v.zero.cells.size = v.size) 256 411 ttllrrrllr := ⟨(fun v h => by cases h; exact ⟨ti411_ok, rfl⟩), trivial, trivial⟩
theorem ttllrrrll_ok : TrAll (fun i v => TOk Tryz.prog i v ∧ v.zero.cells.size = v.size) 128 155 ttllrrrll := ⟨(fun v h => by cases h; exact ⟨ti155_ok, rfl⟩), ttllrrrlll_ok, ttllrrrllr_ok⟩
theorem ttllrrrlrl_ok : TrAll (fun i v => TOk Tryz.prog i v ∧ v.zero.cells.size = v.size) 256 347 ttllrrrlrl := ⟨(fun v h => by cases h; exact ⟨ti347_ok, rfl⟩), trivial, trivial⟩
theorem ttllrrrlrr_ok : TrAll (fun i v => TOk Tryz.prog i v ∧ v.zero.cells.size = v.size) 256 475 ttllrrrlrr := ⟨(fun v h => by cases h; exact ⟨ti475_ok, rfl⟩), trivial, trivial⟩
theorem ttllrrrlr_ok : TrAll (fun i v => TOk Tryz.prog i v ∧ v.zero.cells.size = v.size) 128 219 ttllrrrlr := ⟨(fun v h => by cases h; exact ⟨ti219_ok, rfl⟩), ttllrrrlrl_ok, ttllrrrlrr_ok⟩
theorem ttllrrrl_ok : TrAll (fun i v => TOk Tryz.prog i v ∧ v.zero.cells.size = v.size) 64 91 ttllrrrl := ⟨(fun v h => by cases h; exact ⟨ti91_ok, rfl⟩), ttllrrrll_ok, ttllrrrlr_ok⟩
theorem ttllrrrrll_ok : TrAll (fun i v => TOk Tryz.prog i v ∧ v.zero.cells.size = v.size) 256 315 ttllrrrrll := ⟨(fun v h => by cases h; exact ⟨ti315_ok, rfl⟩), trivial, trivial⟩
theorem ttllrrrrlr_ok : TrAll (fun i v => TOk Tryz.prog i v ∧ v.zero.cells.size = v.size) 256 443 ttllrrrrlr := ⟨(fun v h => by cases h; exact ⟨ti443_ok, rfl⟩), trivial, trivial⟩
theorem ttllrrrrl_ok : TrAll (fun i v => TOk Tryz.prog i v ∧ v.zero.cells.size = v.size) 128 187 ttllrrrrl := ⟨(fun v h => by cases h; exact ⟨ti187_ok, rfl⟩), ttllrrrrll_ok, ttllrrrrlr_ok⟩
theorem ttllrrrrrl_ok : TrAll (fun i v => TOk Tryz.prog i v ∧ v.zero.cells.size = v.size) 256 379 ttllrrrrrl := ⟨(fun v h => by cases h; exact ⟨ti379_ok, rfl⟩), trivial, trivial⟩
theorem ttllrrrrrr_ok : TrAll (fun i v => TOk Tryz.prog i v ∧ v.zero.cells.size = v.size) 256 507 ttllrrrrrr := ⟨(fun v h => by cases h; exact ⟨ti507_ok, rfl⟩), trivial, trivial⟩
theorem ttllrrrrr_ok : TrAll (fun i v => TOk Tryz.prog i v ∧ v.zero.cells.size = v.size) 128 251 ttllrrrrr := ⟨(fun v h => by cases h; exact ⟨ti251_ok, rfl⟩), ttllrrrrrl_ok, ttllrrrrrr_ok⟩
theorem ttllrrrr_ok : TrAll (fun i v => TOk Tryz.prog i v ∧ v.zero.cells.size = v.size) 64 123 ttllrrrr := ⟨(fun v h => by cases h; exact ⟨ti123_ok, rfl⟩), ttllrrrrl_ok, ttllrrrrr_ok⟩
theorem ttllrrr_ok : TrAll (fun i v => TOk Tryz.prog i v ∧ v.zero.cells.size = v.size) 32 59 ttllrrr := ⟨(fun v h => by cases h; exact ⟨ti59_ok, rfl⟩), ttllrrrl_ok, ttllrrrr_ok⟩
theorem ttllrr_ok : TrAll (fun i v => TOk Tryz.prog i v ∧ v.zero.cells.size = v.size) 16 27 ttllrr := ⟨(fun v h => by cases h; exact ⟨ti27_ok, rfl⟩), ttllrrl_ok, ttllrrr_ok⟩
theorem ttllr_ok : TrAll (fun i v => TOk Tryz.prog i v ∧ v.zero.cells.size = v.size) 8 11 ttllr := ⟨(fun v h => by cases h; exact ⟨ti11_ok, rfl⟩), ttllrl_ok, ttllrr_ok⟩
theorem ttll_ok : TrAll (fun i v => TOk Tryz.prog i v ∧ v.zero.cells.size = v.size) 4 3 ttll := ⟨(fun v h => by cases h; exact ⟨ti3_ok, rfl⟩), ttlll_ok, ttllr_ok⟩
theorem ttlrllllll_ok : TrAll (fun i v => TOk Tryz.prog i v ∧ v.zero.cells.size = v.size) 256 257 ttlrllllll := ⟨(fun v h => by cases h; exact ⟨ti257_ok, rfl⟩), trivial, trivial⟩
theorem ttlrlllllr_ok : TrAll (fun i v => TOk Tryz.prog i v ∧ v.zero.cells.size = v.size) 256 385 ttlrlllllr := ⟨(fun v h => by cases h; exact ⟨ti385_ok, rfl⟩), trivial, trivial⟩
theorem ttlrlllll_ok : TrAll (fun i v => TOk Tryz.prog i v ∧ v.zero.cells.size = v.size) 128 129 ttlrlllll := ⟨(fun v h => by cases h; exact ⟨ti129_ok, rfl⟩), ttlrllllll_ok, ttlrlllllr_ok⟩
theorem ttlrllllrl_ok : TrAll (fun i v => TOk Tryz.prog i v ∧ v.zero.cells.size = v.size) 256 321 ttlrllllrl := ⟨(fun v h => by cases h; exact ⟨ti321_ok, rfl⟩), trivial, trivial⟩
theorem ttlrllllrr_ok : TrAll (fun i v => TOk Tryz.prog i v ∧ v.zero.cells.size = v.size) 256 449 ttlrllllrr := ⟨(fun v h => by cases h; exact ⟨ti449_ok, rfl⟩), trivial, trivial⟩
theorem ttlrllllr_ok : TrAll (fun i v => TOk Tryz.prog i v ∧ v.zero.cells.size = v.size) 128 193 ttlrllllr := ⟨(fun v h => by cases h; exact ⟨ti193_ok, rfl⟩), ttlrllllrl_ok, ttlrllllrr_ok⟩
theorem ttlrllll_ok : TrAll (fun i v => TOk Tryz.prog i v ∧ v.zero.cells.size = v.size) 64 65 ttlrllll := ⟨(fun v h => by cases h; exact ⟨ti65_ok, rfl⟩), ttlrlllll_ok, ttlrllllr_ok⟩
theorem ttlrlllrll_ok : TrAll (fun i v => TOk Tryz.prog i v ∧ v.zero.cells.size = v.size) 256 289 ttlrlllrll := ⟨(fun v h => by cases h; exact ⟨ti289_ok, rfl⟩), trivial, trivial⟩
theorem ttlrlllrlr_ok : TrAll (fun i v => TOk Tryz.prog i v ∧ v.zero.cells.size = v.size) 256 417 ttlrlllrlr := ⟨(fun v h => by cases h; exact ⟨ti417_ok, rfl⟩), trivial, trivial⟩
theorem ttlrlllrl_ok : TrAll (fun i v => TOk Tryz.prog i v ∧ v.zero.cells.size = v.size) 128 161 ttlrlllrl := ⟨(fun v h => by cases h; exact ⟨ti161_ok, rfl⟩), ttlrlllrll_ok, ttlrlllrlr_ok⟩
theorem ttlrlllrrl_ok : TrAll (fun i v => TOk Tryz.prog i v ∧ v.zero.cells.size = v.size) 256 353 ttlrlllrrl := ⟨(fun v h => by cases h; exact ⟨ti353_ok, rfl⟩), trivial, trivial⟩
theorem ttlrlllrrr_ok : TrAll (fun i v => TOk Tryz.prog i v ∧ v.zero.cells.size = v.size) 256 481 ttlrlllrrr := ⟨(fun v h => by cases h; exact ⟨ti481_ok, rfl⟩), trivial, trivial⟩
theorem ttlrlllrr_ok : TrAll (fun i v => TOk Tryz.prog i v ∧ v.zero.cells.size = v.size) 128 225 ttlrlllrr := ⟨(fun v h => by cases h; exact ⟨ti225_ok, rfl⟩), ttlrlllrrl_ok, ttlrlllrrr_ok⟩
theorem ttlrlllr_ok : TrAll (fun i v => TOk Tryz.prog i v ∧ v.zero.cells.size = v.size) 64 97 ttlrlllr := ⟨(fun v h => by cases h; exact ⟨ti97_ok, rfl⟩), ttlrlllrl_ok, ttlrlllrr_ok⟩
theorem ttlrlll_ok : TrAll (fun i v => TOk Tryz.prog i v ∧ v.zero.cells.size = v.size) 32 33 ttlrlll := ⟨(fun v h => by cases h; exact ⟨ti33_ok, rfl⟩), ttlrllll_ok, ttlrlllr_ok⟩
theorem ttlrllrlll_ok : TrAll (fun i v => TOk Tryz.prog i v ∧ v.zero.cells.size = v.size) 256 273 ttlrllrlll := ⟨(fun v h => by cases h; exact ⟨ti273_ok, rfl⟩), trivial, trivial⟩
theorem ttlrllrllr_ok : TrAll (fun i v => TOk Tryz.prog i v ∧ v.zero.cells.size = v.size) 256 401 ttlrllrllr := ⟨(fun v h => by cases h; exact ⟨ti401_ok, rfl⟩), trivial, trivial⟩
theorem ttlrllrll_ok : TrAll (fun i v => TOk Tryz.prog i v ∧ v.zero.cells.size = v.size) 128 145 ttlrllrll := ⟨(fun v h => by cases h; exact ⟨ti145_ok, rfl⟩), ttlrllrlll_ok, ttlrllrllr_ok⟩
theorem ttlrllrlrl_ok : TrAll (fun i v => TOk Tryz.prog i v ∧ v.zero.cells.size = v.size) 256 337 ttlrllrlrl := ⟨(fun v h => by cases h; exact ⟨ti337_ok, rfl⟩), trivial, trivial⟩
theorem ttlrllrlrr_ok : TrAll (fun i v => TOk Tryz.prog i v ∧ v.zero.cells.size = v.size) 256 465 ttlrllrlrr := ⟨(fun v h => by cases h; exact ⟨ti465_ok, rfl⟩), trivial, trivial⟩
theorem ttlrllrlr_ok : TrAll (fun i v => TOk Tryz.prog i v ∧ v.zero.cells.size = v.size) 128 209 ttlrllrlr := ⟨(fun v h => by cases h; exact ⟨ti209_ok, rfl⟩), ttlrllrlrl_ok, ttlrllrlrr_ok⟩
theorem ttlrllrl_ok : TrAll (fun i v => TOk Tryz.prog i v ∧ v.zero.cells.size = v.size) 64 81 ttlrllrl := ⟨(fun v h => by cases h; exact ⟨ti81_ok, rfl⟩), ttlrllrll_ok, ttlrllrlr_ok⟩
theorem ttlrllrrll_ok : TrAll (fun i v => TOk Tryz.prog i v ∧ v.zero.cells.size = v.size) 256 305 ttlrllrrll := ⟨(fun v h => by cases h; exact ⟨ti305_ok, rfl⟩), trivial, trivial⟩
theorem ttlrllrrlr_ok : TrAll (fun i v => TOk Tryz.prog i v ∧ v.zero.cells.size = v.size) 256 433 ttlrllrrlr := ⟨(fun v h => by cases h; exact ⟨ti433_ok, rfl⟩), trivial, trivial⟩
theorem ttlrllrrl_ok : TrAll (fun i v => TOk Tryz.prog i v ∧ v.zero.cells.size = v.size) 128 177 ttlrllrrl := ⟨(fun v h => by cases h; exact ⟨ti177_ok, rfl⟩), ttlrllrrll_ok, ttlrllrrlr_ok⟩
theorem ttlrllrrrl_ok : TrAll (fun i v => TOk Tryz.prog i v ∧ v.zero.cells.size = v.size) 256 369 ttlrllrrrl := ⟨(fun v h => by cases h; exact ⟨ti369_ok, rfl⟩), trivial, trivial⟩
theorem ttlrllrrrr_ok : TrAll (fun i v => TOk Tryz.prog i v ∧ v.zero.cells.size = v.size) 256 497 ttlrllrrrr := ⟨(fun v h => by cases h; exact ⟨ti497_ok, rfl⟩), trivial, trivial⟩
theorem ttlrllrrr_ok : TrAll (fun i v => TOk Tryz.prog i v ∧ v.zero.cells.size = v.size) 128 241 ttlrllrrr := ⟨(fun v h => by cases h; exact ⟨ti241_ok, rfl⟩), ttlrllrrrl_ok, ttlrllrrrr_ok⟩
theorem ttlrllrr_ok : TrAll (fun i v => TOk Tryz.prog i v ∧ v.zero.cells.size = v.size) 64 113 ttlrllrr := ⟨(fun v h => by cases h; exact ⟨ti113_ok, rfl⟩), ttlrllrrl_ok, ttlrllrrr_ok⟩
theorem ttlrllr_ok : TrAll (fun i v => TOk Tryz.prog i v ∧ v.zero.cells.size = v.size) 32 49 ttlrllr := ⟨(fun v h => by cases h; exact ⟨ti49_ok, rfl⟩), ttlrllrl_ok, ttlrllrr_ok⟩
theorem ttlrll_ok : TrAll (fun i v => TOk Tryz.prog i v ∧ v.zero.cells.size = v.size) 16 17 ttlrll := ⟨(fun v h => by cases h; exact ⟨ti17_ok, rfl⟩), ttlrlll_ok, ttlrllr_ok⟩
theorem ttlrlrllll_ok : TrAll (fun i v => TOk Tryz.prog i v ∧ v.zero.cells.size = v.size) 256 265 ttlrlrllll := ⟨(fun v h => by cases h; exact ⟨ti265_ok, rfl⟩), trivial, trivial⟩
theorem ttlrlrlllr_ok : TrAll (fun i v => TOk Tryz.prog i v ∧ v.zero.cells.size = v.size) 256 393 ttlrlrlllr := ⟨(fun v h => by cases h; exact ⟨ti393_ok, rfl⟩), trivial, trivial⟩
theorem ttlrlrlll_ok : TrAll (fun i v => TOk Tryz.prog i v ∧ v.zero.cells.size = v.size) 128 137 ttlrlrlll := ⟨(fun v h => by cases h; exact ⟨ti137_ok, rfl⟩), ttlrlrllll_ok, ttlrlrlllr_ok⟩
theorem ttlrlrllrl_ok : TrAll (fun i v => TOk Tryz.prog i v ∧ v.zero.cells.size = v.size) 256 329 ttlrlrllrl := ⟨(fun v h => by cases h; exact ⟨ti329_ok, rfl⟩), trivial, trivial⟩
theorem ttlrlrllrr_ok : TrAll (fun i v => TOk Tryz.prog i v ∧ v.zero.cells.size = v.size) 256 457 ttlrlrllrr := ⟨(fun v h => by cases h; exact ⟨ti457_ok, rfl⟩), trivial, trivial⟩
theorem ttlrlrllr_ok : TrAll (fun i v => TOk Tryz.prog i v ∧ v.zero.cells.size = v.size) 128 201 ttlrlrllr := ⟨(fun v h => by cases h; exact ⟨ti201_ok, rfl⟩), ttlrlrllrl_ok, ttlrlrllrr_ok⟩
theorem ttlrlrll_ok : TrAll (fun i v => TOk Tryz.prog i v ∧ v.zero.cells.size = v.size) 64 73 ttlrlrll := ⟨(fun v h => by cases h; exact ⟨ti73_ok, rfl⟩), ttlrlrlll_ok, ttlrlrllr_ok⟩
theorem ttlrlrlrll_ok : TrAll (fun i v => TOk Tryz.prog i v ∧ v.zero.cells.size = v.size) 256 297 ttlrlrlrll := ⟨(fun v h => by cases h; exact ⟨ti297_ok, rfl⟩), trivial, trivial⟩
theorem ttlrlrlrlr_ok : TrAll (fun i v => TOk Tryz.prog i v ∧ v.zero.cells.size = v.size) 256 425 ttlrlrlrlr := ⟨(fun v h => by cases h; exact ⟨ti425_ok, rfl⟩), trivial, trivial⟩
theorem ttlrlrlrl_ok : TrAll (fun i v => TOk Tryz.prog i v ∧ v.zero.cells.size = v.size) 128 169 ttlrlrlrl := ⟨(fun v h => by cases h; exact ⟨ti169_ok, rfl⟩), ttlrlrlrll_ok, ttlrlrlrlr_ok⟩
theorem ttlrlrlrrl_ok : TrAll (fun i v => TOk Tryz.prog i v ∧ v.zero.cells.size = v.size) 256 361 ttlrlrlrrl := ⟨(fun v h => by cases h; exact ⟨ti361_ok, rfl⟩), trivial, trivial⟩
theorem ttlrlrlrrr_ok : TrAll (fun i v => TOk Tryz.prog i v ∧ v.zero.cells.size = v.size) 256 489 ttlrlrlrrr := ⟨(fun v h => by cases h; exact ⟨ti489_ok, rfl⟩), trivial, trivial⟩
theorem ttlrlrlrr_ok : TrAll (fun i v => TOk Tryz.prog i v ∧ v.zero.cells.size = v.size) 128 233 ttlrlrlrr := ⟨(fun v h => by cases h; exact ⟨ti233_ok, rfl⟩), ttlrlrlrrl_ok, ttlrlrlrrr_ok⟩
theorem ttlrlrlr_ok : TrAll (fun i v => TOk Tryz.prog i v ∧ v.zero.cells.size = v.size) 64 105 ttlrlrlr := ⟨(fun v h => by cases h; exact ⟨ti105_ok, rfl⟩), ttlrlrlrl_ok, ttlrlrlrr_ok⟩
theorem ttlrlrl_ok : TrAll (fun i v => TOk Tryz.prog i v ∧ v.zero.cells.size = v.size) 32 41 ttlrlrl := ⟨(fun v h => by cases h; exact ⟨ti41_ok, rfl⟩), ttlrlrll_ok, ttlrlrlr_ok⟩
theorem ttlrlrrlll_ok : TrAll (fun i v => TOk Tryz.prog i v ∧ v.zero.cells.size = v.size) 256 281 ttlrlrrlll := ⟨(fun v h => by cases h; exact ⟨ti281_ok, rfl⟩), trivial, trivial⟩
theorem ttlrlrrllr_ok : TrAll (fun i v => TOk Tryz.prog i v ∧ v.zero.cells.size = v.size) 256 409 ttlrlrrllr := ⟨(fun v h => by cases h; exact ⟨ti409_ok, rfl⟩), trivial, trivial⟩
theorem ttlrlrrll_ok : TrAll (fun i v => TOk Tryz.prog i v ∧ v.zero.cells.size = v.size) 128 153 ttlrlrrll := ⟨(fun v h => by cases h; exact ⟨ti153_ok, rfl⟩), ttlrlrrlll_ok, ttlrlrrllr_ok⟩
theorem ttlrlrrlrl_ok : TrAll (fun i v => TOk Tryz.prog i v ∧ v.zero.cells.size = v.size) 256 345 ttlrlrrlrl := ⟨(fun v h => by cases h; exact ⟨ti345_ok, rfl⟩), trivial, trivial⟩
theorem ttlrlrrlrr_ok : TrAll (fun i v => TOk Tryz.prog i v ∧ v.zero.cells.size = v.size) 256 473 ttlrlrrlrr := ⟨(fun v h => by cases h; exact ⟨ti473_ok, rfl⟩), trivial, trivial⟩
theorem ttlrlrrlr_ok : TrAll (fun i v => TOk Tryz.prog i v ∧ v.zero.cells.size = v.size) 128 217 ttlrlrrlr := ⟨(fun v h => by cases h; exact ⟨ti217_ok, rfl⟩), ttlrlrrlrl_ok, ttlrlrrlrr_ok⟩
theorem ttlrlrrl_ok : TrAll (fun i v => TOk Tryz.prog i v ∧ v.zero.cells.size = v.size) 64 89 ttlrlrrl := ⟨(fun v h => by cases h; exact ⟨ti89_ok, rfl⟩), ttlrlrrll_ok, ttlrlrrlr_ok⟩
theorem ttlrlrrrll_ok : TrAll (fun i v => TOk Tryz.prog i v ∧ v.zero.cells.size = v.size) 256 313 ttlrlrrrll := ⟨(fun v h => by cases h; exact ⟨ti313_ok, rfl⟩), trivial, trivial⟩
theorem ttlrlrrrlr_ok : TrAll (fun i v => TOk Tryz.prog i v ∧ v.zero.cells.size = v.size) 256 441 ttlrlrrrlr := ⟨(fun v h => by cases h; exact ⟨ti441_ok, rfl⟩), trivial, trivial⟩
theorem ttlrlrrrl_ok : TrAll (fun i v => TOk Tryz.prog i v ∧ v.zero.cells.size = v.size) 128 185 ttlrlrrrl := ⟨(fun v h => by cases h; exact ⟨ti185_ok, rfl⟩), ttlrlrrrll_ok, ttlrlrrrlr_ok⟩
theorem ttlrlrrrrl_ok : TrAll (fun i v => TOk Tryz.prog i v ∧ v.zero.cells.size = v.size) 256 377 ttlrlrrrrl := ⟨(fun v h => by cases h; exact ⟨ti377_ok, rfl⟩), trivial, trivial⟩
theorem ttlrlrrrrr_ok : TrAll (fun i v => TOk Tryz.prog i v ∧ v.zero.cells.size = v.size) 256 505 ttlrlrrrrr := ⟨(fun v h => by cases h; exact ⟨ti505_ok, rfl⟩), trivial, trivial⟩
theorem ttlrlrrrr_ok : TrAll (fun i v => TOk Tryz.prog i v ∧ v.zero.cells.size = v.size) 128 249 ttlrlrrrr := ⟨(fun v h => by cases h; exact ⟨ti249_ok, rfl⟩), ttlrlrrrrl_ok, ttlrlrrrrr_ok⟩
theorem ttlrlrrr_ok : TrAll (fun i v => TOk Tryz.prog i v ∧ v.zero.cells.size = v.size) 64 121 ttlrlrrr := ⟨(fun v h => by cases h; exact ⟨ti121_ok, rfl⟩), ttlrlrrrl_ok, ttlrlrrrr_ok⟩
theorem ttlrlrr_ok : TrAll (fun i v => TOk Tryz.prog i v ∧ v.zero.cells.size = v.size) 32 57 ttlrlrr := ⟨(fun v h => by cases h; exact ⟨ti57_ok, rfl⟩), ttlrlrrl_ok, ttlrlrrr_ok⟩
theorem ttlrlr_ok : TrAll (fun i v => TOk Tryz.prog i v ∧ v.zero.cells.size = v.size) 16 25 ttlrlr := ⟨(fun v h => by cases h; exact ⟨ti25_ok, rfl⟩), ttlrlrl_ok, ttlrlrr_ok⟩
theorem ttlrl_ok : TrAll (fun i v => TOk Tryz.prog i v ∧ v.zero.cells.size = v.size) 8 9 ttlrl := ⟨(fun v h => by cases h; exact ⟨ti9_ok, rfl⟩), ttlrll_ok, ttlrlr_ok⟩
theorem ttlrrlllll_ok : TrAll (fun i v => TOk Tryz.prog i v ∧ v.zero.cells.size = v.size) 256 261 ttlrrlllll := ⟨(fun v h => by cases h; exact ⟨ti261_ok, rfl⟩), trivial, trivial⟩
theorem ttlrrllllr_ok : TrAll (fun i v => TOk Tryz.prog i v ∧ v.zero.cells.size = v.size) 256 389 ttlrrllllr := ⟨(fun v h => by cases h; exact ⟨ti389_ok, rfl⟩), trivial, trivial⟩
theorem ttlrrllll_ok : TrAll (fun i v => TOk Tryz.prog i v ∧ v.zero.cells.size = v.size) 128 133 ttlrrllll := ⟨(fun v h => by cases h; exact ⟨ti133_ok, rfl⟩), ttlrrlllll_ok, ttlrrllllr_ok⟩
theorem ttlrrlllrl_ok : TrAll (fun i v => TOk Tryz.prog i v ∧ v.zero.cells.size = v.size) 256 325 ttlrrlllrl := ⟨(fun v h => by cases h; exact ⟨ti325_ok, rfl⟩), trivial, trivial⟩
theorem ttlrrlllrr_ok : TrAll (fun i v => TOk Tryz.prog i v ∧ v.zero.cells.size = v.size) 256 453 ttlrrlllrr := ⟨(fun v h => by cases h; exact ⟨ti453_ok, rfl⟩), trivial, trivial⟩
theorem ttlrrlllr_ok : TrAll (fun i v => TOk Tryz.prog i v ∧ v.zero.cells.size = v.size) 128 197 ttlrrlllr := ⟨(fun v h => by cases h; exact ⟨ti197_ok, rfl⟩), ttlrrlllrl_ok, ttlrrlllrr_ok⟩
theorem ttlrrlll_ok : TrAll (fun i v => TOk Tryz.prog i v ∧ v.zero.cells.size = v.size) 64 69 ttlrrlll := ⟨(fun v h => by cases h; exact ⟨ti69_ok, rfl⟩), ttlrrllll_ok, ttlrrlllr_ok⟩
theorem ttlrrllrll_ok : TrAll (fun i v => TOk Tryz.prog i v ∧ v.zero.cells.size = v.size) 256 293 ttlrrllrll := ⟨(fun v h => by cases h; exact ⟨ti293_ok, rfl⟩), trivial, trivial⟩
theorem ttlrrllrlr_ok : TrAll (fun i v => TOk Tryz.prog i v ∧ v.zero.cells.size = v.size) 256 421 ttlrrllrlr := ⟨(fun v h => by cases h; exact ⟨ti421_ok, rfl⟩), trivial, trivial⟩
theorem ttlrrllrl_ok : TrAll (fun i v => TOk Tryz.prog i v ∧ v.zero.cells.size = v.size) 128 165 ttlrrllrl := ⟨(fun v h => by cases h; exact ⟨ti165_ok, rfl⟩), ttlrrllrll_ok, ttlrrllrlr_ok⟩
theorem ttlrrllrrl_ok : TrAll (fun i v => TOk Tryz.prog i v ∧ v.zero.cells.size = v.size) 256 357 ttlrrllrrl := ⟨(fun v h => by cases h; exact ⟨ti357_ok, rfl⟩), trivial, trivial⟩
theorem ttlrrllrrr_ok : TrAll (fun i v => TOk Tryz.prog i v ∧ v.zero.cells.size = v.size) 256 485 ttlrrllrrr := ⟨(fun v h => by cases h; exact ⟨ti485_ok, rfl⟩), trivial, trivial⟩
theorem ttlrrllrr_ok : TrAll (fun i v => TOk Tryz.prog i v ∧ v.zero.cells.size = v.size) 128 229 ttlrrllrr := ⟨(fun v h => by cases h; exact ⟨ti229_ok, rfl⟩), ttlrrllrrl_ok, ttlrrllrrr_ok⟩
theorem ttlrrllr_ok : TrAll (fun i v => TOk Tryz.prog i v ∧ v.zero.cells.size = v.size) 64 101 ttlrrllr := ⟨(fun v h => by cases h; exact ⟨ti101_ok, rfl⟩), ttlrrllrl_ok, ttlrrllrr_ok⟩
theorem ttlrrll_ok : TrAll (fun i v => TOk Tryz.prog i v ∧ v.zero.cells.size = v.size) 32 37 ttlrrll := ⟨(fun v h => by cases h; exact ⟨ti37_ok, rfl⟩), ttlrrlll_ok, ttlrrllr_ok⟩
theorem ttlrrlrlll_ok : TrAll (fun i v => TOk Tryz.prog i v ∧ v.zero.cells.size = v.size) 256 277 ttlrrlrlll := ⟨(fun v h => by cases h; exact ⟨ti277_ok, rfl⟩), trivial, trivial⟩
theorem ttlrrlrllr_ok : TrAll (fun i v => TOk Tryz.prog i v ∧ v.zero.cells.size = v.size) 256 405 ttlrrlrllr := ⟨(fun v h => by cases h; exact ⟨ti405_ok, rfl⟩), trivial, trivial⟩
theorem ttlrrlrll_ok : TrAll (fun i v => TOk Tryz.prog i v ∧ v.zero.cells.size = v.size) 128 149 ttlrrlrll := ⟨(fun v h => by cases h; exact ⟨ti149_ok, rfl⟩), ttlrrlrlll_ok, ttlrrlrllr_ok⟩
theorem ttlrrlrlrl_ok : TrAll (fun i v => TOk Tryz.prog i v ∧ v.zero.cells.size = v.size) 256 341 ttlrrlrlrl := ⟨(fun v h => by cases h; exact ⟨ti341_ok, rfl⟩), trivial, trivial⟩
theorem ttlrrlrlrr_ok : TrAll (fun i v => TOk Tryz.prog i v ∧ v.zero.cells.size = v.size) 256 469 ttlrrlrlrr := ⟨(fun v h => by cases h; exact ⟨ti469_ok, rfl⟩), trivial, trivial⟩
theorem ttlrrlrlr_ok : TrAll (fun i v => TOk Tryz.prog i v ∧ v.zero.cells.size = v.size) 128 213 ttlrrlrlr := ⟨(fun v h => by cases h; exact ⟨ti213_ok, rfl⟩), ttlrrlrlrl_ok, ttlrrlrlrr_ok⟩
theorem ttlrrlrl_ok : TrAll (fun i v => TOk Tryz.prog i v ∧ v.zero.cells.size = v.size) 64 85 ttlrrlrl := ⟨(fun v h => by cases h; exact ⟨ti85_ok, rfl⟩), ttlrrlrll_ok, ttlrrlrlr_ok⟩
theorem ttlrrlrrll_ok : TrAll (fun i v => TOk Tryz.prog i v ∧ v.zero.cells.size = v.size) 256 309 ttlrrlrrll := ⟨(fun v h => by cases h; exact ⟨ti309_ok, rfl⟩), trivial, trivial⟩
theorem ttlrrlrrlr_ok : TrAll (fun i v => TOk Tryz.prog i v ∧ v.zero.cells.size = v.size) 256 437 ttlrrlrrlr := ⟨(fun v h => by cases h; exact ⟨ti437_ok, rfl⟩), trivial, trivial⟩
theorem ttlrrlrrl_ok : TrAll (fun i v => TOk Tryz.prog i v ∧ v.zero.cells.size = v.size) 128 181 ttlrrlrrl := ⟨(fun v h => by cases h; exact ⟨ti181_ok, rfl⟩), ttlrrlrrll_ok, ttlrrlrrlr_ok⟩
theorem ttlrrlrrrl_ok : TrAll (fun i v => TOk Tryz.prog i v ∧ v.zero.cells.size = v.size) 256 373 ttlrrlrrrl := ⟨(fun v h => by cases h; exact ⟨ti373_ok, rfl⟩), trivial, trivial⟩
theorem ttlrrlrrrr_ok : TrAll (fun i v => TOk Tryz.prog i v ∧ v.zero.cells.size = v.size) 256 501 ttlrrlrrrr := ⟨(fun v h => by cases h; exact ⟨ti501_ok, rfl⟩), trivial, trivial⟩
theorem ttlrrlrrr_ok : TrAll (fun i v => TOk Tryz.prog i v ∧ v.zero.cells.size = v.size) 128 245 ttlrrlrrr := ⟨(fun v h => by cases h; exact ⟨ti245_ok, rfl⟩), ttlrrlrrrl_ok, ttlrrlrrrr_ok⟩
theorem ttlrrlrr_ok : TrAll (fun i v => TOk Tryz.prog i v ∧ v.zero.cells.size = v.size) 64 117 ttlrrlrr := ⟨(fun v h => by cases h; exact ⟨ti117_ok, rfl⟩), ttlrrlrrl_ok, ttlrrlrrr_ok⟩
theorem ttlrrlr_ok : TrAll (fun i v => TOk Tryz.prog i v ∧ v.zero.cells.size = v.size) 32 53 ttlrrlr := ⟨(fun v h => by cases h; exact ⟨ti53_ok, rfl⟩), ttlrrlrl_ok, ttlrrlrr_ok⟩
theorem ttlrrl_ok : TrAll (fun i v => TOk Tryz.prog i v ∧ v.zero.cells.size = v.size) 16 21 ttlrrl := ⟨(fun v h => by cases h; exact ⟨ti21_ok, rfl⟩), ttlrrll_ok, ttlrrlr_ok⟩
theorem ttlrrrllll_ok : TrAll (fun i v => TOk Tryz.prog i v ∧ v.zero.cells.size = v.size) 256 269 ttlrrrllll := ⟨(fun v h => by cases h; exact ⟨ti269_ok, rfl⟩), trivial, trivial⟩
theorem ttlrrrlllr_ok : TrAll (fun i v => TOk Tryz.prog i v ∧ v.zero.cells.size = v.size) 256 397 ttlrrrlllr := ⟨(fun v h => by cases h; exact ⟨ti397_ok, rfl⟩), trivial, trivial⟩
theorem ttlrrrlll_ok : TrAll (fun i v => TOk Tryz.prog i v ∧ v.zero.cells.size = v.size) 128 141 ttlrrrlll := ⟨(fun v h => by cases h; exact ⟨ti141_ok, rfl⟩), ttlrrrllll_ok, ttlrrrlllr_ok⟩
theorem ttlrrrllrl_ok : TrAll (fun i v => TOk Tryz.prog i v ∧ v.zero.cells.size = v.size) 256 333 ttlrrrllrl := ⟨(fun v h => by cases h; exact ⟨ti333_ok, rfl⟩), trivial, trivial⟩
theorem ttlrrrllrr_ok : TrAll (fun i v => TOk Tryz.prog i v ∧ v.zero.cells.size = v.size) 256 461 ttlrrrllrr := ⟨(fun v h => by cases h; exact ⟨ti461_ok, rfl⟩), trivial, trivial⟩
theorem ttlrrrllr_ok : TrAll (fun i v => TOk Tryz.prog i v ∧ v.zero.cells.size = v.size) 128 205 ttlrrrllr := ⟨(fun v h => by cases h; exact ⟨ti205_ok, rfl⟩), ttlrrrllrl_ok, ttlrrrllrr_ok⟩
theorem ttlrrrll_ok : TrAll (fun i v => TOk Tryz.prog i v ∧ v.zero.cells.size = v.size) 64 77 ttlrrrll := ⟨(fun v h => by cases h; exact ⟨ti77_ok, rfl⟩), ttlrrrlll_ok, ttlrrrllr_ok⟩
theorem ttlrrrlrll_ok : TrAll (fun i v => TOk Tryz.prog i v ∧ v.zero.cells.size = v.size) 256 301 ttlrrrlrll := ⟨(fun v h => by cases h; exact ⟨ti301_ok, rfl⟩), trivial, trivial⟩
theorem ttlrrrlrlr_ok : TrAll (fun i v => TOk Tryz.prog i v ∧ v.zero.cells.size = v.size) 256 429 ttlrrrlrlr := ⟨(fun v h => by cases h; exact ⟨ti429_ok, rfl⟩), trivial, trivial⟩
theorem ttlrrrlrl_ok : TrAll (fun i v => TOk Tryz.prog i v ∧ v.zero.cells.size = v.size) 128 173 ttlrrrlrl := ⟨(fun v h => by cases h; exact ⟨ti173_ok, rfl⟩), ttlrrrlrll_ok, ttlrrrlrlr_ok⟩
theorem ttlrrrlrrl_ok : TrAll (fun i v => TOk Tryz.prog i v ∧ v.zero.cells.size = v.size) 256 365 ttlrrrlrrl := ⟨(fun v h => by cases h; exact ⟨ti365_ok, rfl⟩), trivial, trivial⟩
theorem ttlrrrlrrr_ok : TrAll (fun i v => TOk Tryz.prog i v ∧ v.zero.cells.size = v.size) 256 493 ttlrrrlrrr := ⟨(fun v h => by cases h; exact ⟨ti493_ok, rfl⟩), trivial, trivial⟩
theorem ttlrrrlrr_ok : TrAll (fun i v => TOk Tryz.prog i v ∧ v.zero.cells.size = v.size) 128 237 ttlrrrlrr := ⟨(fun v h => by cases h; exact ⟨ti237_ok, rfl⟩), ttlrrrlrrl_ok, ttlrrrlrrr_ok⟩
theorem ttlrrrlr_ok : TrAll (fun i v => TOk Tryz.prog i v ∧ v.zero.cells.size = v.size) 64 109 ttlrrrlr := ⟨(fun v h => by cases h; exact ⟨ti109_ok, rfl⟩), ttlrrrlrl_ok, ttlrrrlrr_ok⟩
theorem ttlrrrl_ok : TrAll (fun i v => TOk Tryz.prog i v ∧ v.zero.cells.size = v.size) 32 45 ttlrrrl := ⟨(fun v h => by cases h; exact ⟨ti45_ok, rfl⟩), ttlrrrll_ok, ttlrrrlr_ok⟩
theorem ttlrrrrlll_ok : TrAll (fun i v => TOk Tryz.prog i v ∧ v.zero.cells.size = v.size) 256 285 ttlrrrrlll := ⟨(fun v h => by cases h; exact ⟨ti285_ok, rfl⟩), trivial, trivial⟩
theorem ttlrrrrllr_ok : TrAll (fun i v => TOk Tryz.prog i v ∧ v.zero.cells.size = v.size) 256 413 ttlrrrrllr := ⟨(fun v h => by cases h; exact ⟨ti413_ok, rfl⟩), trivial, trivial⟩
theorem ttlrrrrll_ok : TrAll (fun i v => TOk Tryz.prog i v ∧ v.zero.cells.size = v.size) 128 157 ttlrrrrll := ⟨(fun v h => by cases h; exact ⟨ti157_ok, rfl⟩), ttlrrrrlll_ok, ttlrrrrllr_ok⟩
theorem ttlrrrrlrl_ok : TrAll (fun i v => TOk Tryz.prog i v ∧ v.zero.cells.size = v.size) 256 349 ttlrrrrlrl := ⟨(fun v h => by cases h; exact ⟨ti349_ok, rfl⟩), trivial, trivial⟩
theorem ttlrrrrlrr_ok : TrAll (fun i v => TOk Tryz.prog i v ∧ v.zero.cells.size = v.size) 256 477 ttlrrrrlrr := ⟨(fun v h => by cases h; exact ⟨ti477_ok, rfl⟩), trivial, trivial⟩
theorem ttlrrrrlr_ok : TrAll (fun i v => TOk Tryz.prog i v ∧ v.zero.cells.size = v.size) 128 221 ttlrrrrlr := ⟨(fun v h => by cases h; exact ⟨ti221_ok, rfl⟩), ttlrrrrlrl_ok, ttlrrrrlrr_ok⟩
theorem ttlrrrrl_ok : TrAll (fun i v => TOk Tryz.prog i v ∧ v.zero.cells.size = v.size) 64 93 ttlrrrrl := ⟨(fun v h => by cases h; exact ⟨ti93_ok, rfl⟩), ttlrrrrll_ok, ttlrrrrlr_ok⟩
theorem ttlrrrrrll_ok : TrAll (fun i v => TOk Tryz.prog i v ∧ v.zero.cells.size = v.size) 256 317 ttlrrrrrll := ⟨(fun v h => by cases h; exact ⟨ti317_ok, rfl⟩), trivial, trivial⟩
theorem ttlrrrrrlr_ok : TrAll (fun i v => TOk Tryz.prog i v ∧ v.zero.cells.size = v.size) 256 445 ttlrrrrrlr := ⟨(fun v h => by cases h; exact ⟨ti445_ok, rfl⟩), trivial, trivial⟩
theorem ttlrrrrrl_ok : TrAll (fun i v => TOk Tryz.prog i v ∧ v.zero.cells.size = v.size) 128 189 ttlrrrrrl := ⟨(fun v h => by cases h; exact ⟨ti189_ok, rfl⟩), ttlrrrrrll_ok, ttlrrrrrlr_ok⟩
theorem ttlrrrrrrl_ok : TrAll (fun i v => TOk Tryz.prog i v ∧ v.zero.cells.size = v.size) 256 381 ttlrrrrrrl := ⟨(fun v h => by cases h; exact ⟨ti381_ok, rfl⟩), trivial, trivial⟩
theorem ttlrrrrrrr_ok : TrAll (fun i v => TOk Tryz.prog i v ∧ v.zero.cells.size = v.size) 256 509 ttlrrrrrrr := ⟨(fun v h => by cases h; exact ⟨ti509_ok, rfl⟩), trivial, trivial⟩
theorem ttlrrrrrr_ok : TrAll (fun i v => TOk Tryz.prog i v ∧ v.zero.cells.size = v.size) 128 253 ttlrrrrrr := ⟨(fun v h => by cases h; exact ⟨ti253_ok, rfl⟩), ttlrrrrrrl_ok, ttlrrrrrrr_ok⟩
theorem ttlrrrrr_ok : TrAll (fun i v => TOk Tryz.prog i v ∧ v.zero.cells.size = v.size) 64 125 ttlrrrrr := ⟨(fun v h => by cases h; exact ⟨ti125_ok, rfl⟩), ttlrrrrrl_ok, ttlrrrrrr_ok⟩
theorem ttlrrrr_ok : TrAll (fun i v => TOk Tryz.prog i v ∧ v.zero.cells.size = v.size) 32 61 ttlrrrr := ⟨(fun v h => by cases h; exact ⟨ti61_ok, rfl⟩), ttlrrrrl_ok, ttlrrrrr_ok⟩
theorem ttlrrr_ok : TrAll (fun i v => TOk Tryz.prog i v ∧ v.zero.cells.size = v.size) 16 29 ttlrrr := ⟨(fun v h => by cases h; exact ⟨ti29_ok, rfl⟩), ttlrrrl_ok, ttlrrrr_ok⟩
theorem ttlrr_ok : TrAll (fun i v => TOk Tryz.prog i v ∧ v.zero.cells.size = v.size) 8 13 ttlrr := ⟨(fun v h => by cases h; exact ⟨ti13_ok, rfl⟩), ttlrrl_ok, ttlrrr_ok⟩
theorem ttlr_ok : TrAll (fun i v => TOk Tryz.prog i v ∧ v.zero.cells.size = v.size) 4 5 ttlr := ⟨(fun v h => by cases h; exact ⟨ti5_ok, rfl⟩), ttlrl_ok, ttlrr_ok⟩
theorem ttl_ok : TrAll (fun i v => TOk Tryz.prog i v ∧ v.zero.cells.size = v.size) 2 1 ttl := ⟨(fun v h => by cases h; exact ⟨ti1_ok, rfl⟩), ttll_ok, ttlr_ok⟩
theorem ttrllllllll_ok : TrAll (fun i v => TOk Tryz.prog i v ∧ v.zero.cells.size = v.size) 512 512 ttrllllllll := ⟨(fun v h => by cases h; exact ⟨ti512_ok, rfl⟩), trivial, trivial⟩
theorem ttrlllllll_ok : TrAll (fun i v => TOk Tryz.prog i v ∧ v.zero.cells.size = v.size) 256 256 ttrlllllll := ⟨(fun v h => by cases h; exact ⟨ti256_ok, rfl⟩), ttrllllllll_ok, trivial⟩
theorem ttrllllllr_ok : TrAll (fun i v => TOk Tryz.prog i v ∧ v.zero.cells.size = v.size) 256 384 ttrllllllr := ⟨(fun v h => by cases h; exact ⟨ti384_ok, rfl⟩), trivial, trivial⟩
theorem ttrllllll_ok : TrAll (fun i v => TOk Tryz.prog i v ∧ v.zero.cells.size = v.size) 128 128 ttrllllll := ⟨(fun v h => by cases h; exact ⟨ti128_ok, rfl⟩), ttrlllllll_ok, ttrllllllr_ok⟩
theorem ttrlllllrl_ok : TrAll (fun i v => TOk Tryz.prog i v ∧ v.zero.cells.size = v.size) 256 320 ttrlllllrl := ⟨(fun v h => by cases h; exact ⟨ti320_ok, rfl⟩), trivial, trivial⟩
theorem ttrlllllrr_ok : TrAll (fun i v => TOk Tryz.prog i v ∧ v.zero.cells.size = v.size) 256 448 ttrlllllrr := ⟨(fun v h => by cases h; exact ⟨ti448_ok, rfl⟩), trivial, trivial⟩
theorem ttrlllllr_ok : TrAll (fun i v => TOk Tryz.prog i v ∧ v.zero.cells.size = v.size) 128 192 ttrlllllr := ⟨(fun v h => by cases h; exact ⟨ti192_ok, rfl⟩), ttrlllllrl_ok, ttrlllllrr_ok⟩
theorem ttrlllll_ok : TrAll (fun i v => TOk Tryz.prog i v ∧ v.zero.cells.size = v.size) 64 64 ttrlllll := ⟨(fun v h => by cases h; exact ⟨ti64_ok, rfl⟩), ttrllllll_ok, ttrlllllr_ok⟩
theorem ttrllllrll_ok : TrAll (fun i v => TOk Tryz.prog i v ∧ v.zero.cells.size = v.size) 256 288 ttrllllrll := ⟨(fun v h => by cases h; exact ⟨ti288_ok, rfl⟩), trivial, trivial⟩
theorem ttrllllrlr_ok : TrAll (fun i v => TOk Tryz.prog i v ∧ v.zero.cells.size = v.size) 256 416 ttrllllrlr := ⟨(fun v h => by cases h; exact ⟨ti416_ok, rfl⟩), trivial, trivial⟩
theorem ttrllllrl_ok : TrAll (fun i v => TOk Tryz.prog i v ∧ v.zero.cells.size = v.size) 128 160 ttrllllrl := ⟨(fun v h => by cases h; exact ⟨ti160_ok, rfl⟩), ttrllllrll_ok, ttrllllrlr_ok⟩
theorem ttrllllrrl_ok : TrAll (fun i v => TOk Tryz.prog i v ∧ v.zero.cells.size = v.size) 256 352 ttrllllrrl := ⟨(fun v h => by cases h; exact ⟨ti352_ok, rfl⟩), trivial, trivial⟩
theorem ttrllllrrr_ok : TrAll (fun i v => TOk Tryz.prog i v ∧ v.zero.cells.size = v.size) 256 480 ttrllllrrr := ⟨(fun v h => by cases h; exact ⟨ti480_ok, rfl⟩), trivial, trivial⟩
theorem ttrllllrr_ok : TrAll (fun i v => TOk Tryz.prog i v ∧ v.zero.cells.size = v.size) 128 224 ttrllllrr := ⟨(fun v h => by cases h; exact ⟨ti224_ok, rfl⟩), ttrllllrrl_ok, ttrllllrrr_ok⟩
theorem ttrllllr_ok : TrAll (fun i v => TOk Tryz.prog i v ∧ v.zero.cells.size = v.size) 64 96 ttrllllr := ⟨(fun v h => by cases h; exact ⟨ti96_ok, rfl⟩), ttrllllrl_ok, ttrllllrr_ok⟩
theorem ttrllll_ok : TrAll (fun i v => TOk Tryz.prog i v ∧ v.zero.cells.size = v.size) 32 32 ttrllll := ⟨(fun v h => by cases h; exact ⟨ti32_ok, rfl⟩), ttrlllll_ok, ttrllllr_ok⟩
theorem ttrlllrlll_ok : TrAll (fun i v => TOk Tryz.prog i v ∧ v.zero.cells.size = v.size) 256 272 ttrlllrlll := ⟨(fun v h => by cases h; exact ⟨ti272_ok, rfl⟩), trivial, trivial⟩
theorem ttrlllrllr_ok : TrAll (fun i v => TOk Tryz.prog i v ∧ v.zero.cells.size = v.size) 256 400 ttrlllrllr := ⟨(fun v h => by cases h; exact ⟨ti400_ok, rfl⟩), trivial, trivial⟩
theorem ttrlllrll_ok : TrAll (fun i v => TOk Tryz.prog i v ∧ v.zero.cells.size = v.size) 128 144 ttrlllrll := ⟨(fun v h => by cases h; exact ⟨ti144_ok, rfl⟩), ttrlllrlll_ok, ttrlllrllr_ok⟩
theorem ttrlllrlrl_ok : TrAll (fun i v => TOk Tryz.prog i v ∧ v.zero.cells.size = v.size) 256 336 ttrlllrlrl := ⟨(fun v h => by cases h; exact ⟨ti336_ok, rfl⟩), trivial, trivial⟩
theorem ttrlllrlrr_ok : TrAll (fun i v => TOk Tryz.prog i v ∧ v.zero.cells.size = v.size) 256 464 ttrlllrlrr := ⟨(fun v h => by cases h; exact ⟨ti464_ok, rfl⟩), trivial, trivial⟩
theorem ttrlllrlr_ok : TrAll (fun i v => TOk Tryz.prog i v ∧ v.zero.cells.size = v.size) 128 208 ttrlllrlr := ⟨(fun v h => by cases h; exact ⟨ti208_ok, rfl⟩), ttrlllrlrl_ok, ttrlllrlrr_ok⟩
theorem ttrlllrl_ok : TrAll (fun i v => TOk Tryz.prog i v ∧ v.zero.cells.size = v.size) 64 80 ttrlllrl := ⟨(fun v h => by cases h; exact ⟨ti80_ok, rfl⟩), ttrlllrll_ok, ttrlllrlr_ok⟩
theorem ttrlllrrll_ok : TrAll (fun i v => TOk Tryz.prog i v ∧ v.zero.cells.size = v.size) 256 304 ttrlllrrll := ⟨(fun v h => by cases h; exact ⟨ti304_ok, rfl⟩), trivial, trivial⟩
theorem ttrlllrrlr_ok : TrAll (fun i v => TOk Tryz.prog i v ∧ v.zero.cells.size = v.size) 256 432 ttrlllrrlr := ⟨(fun v h => by cases h; exact ⟨ti432_ok, rfl⟩), trivial, trivial⟩
theorem ttrlllrrl_ok : TrAll (fun i v => TOk Tryz.prog i v ∧ v.zero.cells.size = v.size) 128 176 ttrlllrrl := ⟨(fun v h => by cases h; exact ⟨ti176_ok, rfl⟩), ttrlllrrll_ok, ttrlllrrlr_ok⟩
theorem ttrlllrrrl_ok : TrAll (fun i v => TOk Tryz.prog i v ∧ v.zero.cells.size = v.size) 256 368 ttrlllrrrl := ⟨(fun v h => by cases h; exact ⟨ti368_ok, rfl⟩), trivial, trivial⟩
theorem ttrlllrrrr_ok : TrAll (fun i v => TOk Tryz.prog i v ∧ v.zero.cells.size = v.size) 256 496 ttrlllrrrr := ⟨(fun v h => by cases h; exact ⟨ti496_ok, rfl⟩), trivial, trivial⟩
theorem ttrlllrrr_ok : TrAll (fun i v => TOk Tryz.prog i v ∧ v.zero.cells.size = v.size) 128 240 ttrlllrrr := ⟨(fun v h => by cases h; exact ⟨ti240_ok, rfl⟩), ttrlllrrrl_ok, ttrlllrrrr_ok⟩
theorem ttrlllrr_ok : TrAll (fun i v => TOk Tryz.prog i v ∧ v.zero.cells.size = v.size) 64 112 ttrlllrr := ⟨(fun v h => by cases h; exact ⟨ti112_ok, rfl⟩), ttrlllrrl_ok, ttrlllrrr_ok⟩
theorem ttrlllr_ok : TrAll (fun i v => TOk Tryz.prog i v ∧ v.zero.cells.size = v.size) 32 48 ttrlllr := ⟨(fun v h => by cases h; exact ⟨ti48_ok, rfl⟩), ttrlllrl_ok, ttrlllrr_ok⟩
theorem ttrlll_ok : TrAll (fun i v => TOk Tryz.prog i v ∧ v.zero.cells.size = v.size) 16 16 ttrlll := ⟨(fun v h => by cases h; exact ⟨ti16_ok, rfl⟩), ttrllll_ok, ttrlllr_ok⟩
theorem ttrllrllll_ok : TrAll (fun i v => TOk Tryz.prog i v ∧ v.zero.cells.size = v.size) 256 264 ttrllrllll := ⟨(fun v h => by cases h; exact ⟨ti264_ok, rfl⟩), trivial, trivial⟩
theorem ttrllrlllr_ok : TrAll (fun i v => TOk Tryz.prog i v ∧ v.zero.cells.size = v.size) 256 392 ttrllrlllr := ⟨(fun v h => by cases h; exact ⟨ti392_ok, rfl⟩), trivial, trivial⟩
theorem ttrllrlll_ok : TrAll (fun i v => TOk Tryz.prog i v ∧ v.zero.cells.size = v.size) 128 136 ttrllrlll := ⟨(fun v h => by cases h; exact ⟨ti136_ok, rfl⟩), ttrllrllll_ok, ttrllrlllr_ok⟩
theorem ttrllrllrl_ok : TrAll (fun i v => TOk Tryz.prog i v ∧ v.zero.cells.size = v.size) 256 328 ttrllrllrl := ⟨(fun v h => by cases h; exact ⟨ti328_ok, rfl⟩), trivial, trivial⟩
theorem ttrllrllrr_ok : TrAll (fun i v => TOk Tryz.prog i v ∧ v.zero.cells.size = v.size) 256 456 ttrllrllrr := ⟨(fun v h => by cases h; exact ⟨ti456_ok, rfl⟩), trivial, trivial⟩
theorem ttrllrllr_ok : TrAll (fun i v => TOk Tryz.prog i v ∧ v.zero.cells.size = v.size) 128 200 ttrllrllr := ⟨(fun v h => by cases h; exact ⟨ti200_ok, rfl⟩), ttrllrllrl_ok, ttrllrllrr_ok⟩
theorem ttrllrll_ok : TrAll (fun i v => TOk Tryz.prog i v ∧ v.zero.cells.size = v.size) 64 72 ttrllrll := ⟨(fun v h => by cases h; exact ⟨ti72_ok, rfl⟩), ttrllrlll_ok, ttrllrllr_ok⟩
theorem ttrllrlrll_ok : TrAll (fun i v => TOk Tryz.prog i v ∧ v.zero.cells.size = v.size) 256 296 ttrllrlrll := ⟨(fun v h => by cases h; exact ⟨ti296_ok, rfl⟩), trivial, trivial⟩
theorem ttrllrlrlr_ok : TrAll (fun i v => TOk Tryz.prog i v ∧ v.zero.cells.size = v.size) 256 424 ttrllrlrlr := ⟨(fun v h => by cases h; exact ⟨ti424_ok, rfl⟩), trivial, trivial⟩
theorem ttrllrlrl_ok : TrAll (fun i v => TOk Tryz.prog i v ∧ v.zero.cells.size = v.size) 128 168 ttrllrlrl := ⟨(fun v h => by cases h; exact ⟨ti168_ok, rfl⟩), ttrllrlrll_ok, ttrllrlrlr_ok⟩
theorem ttrllrlrrl_ok : TrAll (fun i v => TOk Tryz.prog i v ∧ v.zero.cells.size = v.size) 256 360 ttrllrlrrl := ⟨(fun v h => by cases h; exact ⟨ti360_ok, rfl⟩), trivial, trivial⟩
theorem ttrllrlrrr_ok : TrAll (fun i v => TOk Tryz.prog i v ∧ v.zero.cells.size = v.size) 256 488 ttrllrlrrr := ⟨(fun v h => by cases h; exact ⟨ti488_ok, rfl⟩), trivial, trivial⟩
theorem ttrllrlrr_ok : TrAll (fun i v => TOk Tryz.prog i v ∧ v.zero.cells.size = v.size) 128 232 ttrllrlrr := ⟨(fun v h => by cases h; exact ⟨ti232_ok, rfl⟩), ttrllrlrrl_ok, ttrllrlrrr_ok⟩
theorem ttrllrlr_ok : TrAll (fun i v => TOk Tryz.prog i v ∧ v.zero.cells.size = v.size) 64 104 ttrllrlr := ⟨(fun v h => by cases h; exact ⟨ti104_ok, rfl⟩), ttrllrlrl_ok, ttrllrlrr_ok⟩
theorem ttrllrl_ok : TrAll (fun i v => TOk Tryz.prog i v ∧ v.zero.cells.size = v.size) 32 40 ttrllrl := ⟨(fun v h => by cases h; exact ⟨ti40_ok, rfl⟩), ttrllrll_ok, ttrllrlr_ok⟩
theorem ttrllrrlll_ok : TrAll (fun i v => TOk Tryz.prog i v ∧ v.zero.cells.size = v.size) 256 280 ttrllrrlll := ⟨(fun v h => by cases h; exact ⟨ti280_ok, rfl⟩), trivial, trivial⟩
theorem ttrllrrllr_ok : TrAll (fun i v => TOk Tryz.prog i v ∧ v.zero.cells.size = v.size) 256 408 ttrllrrllr := ⟨(fun v h => by cases h; exact ⟨ti408_ok, rfl⟩), trivial, trivial⟩
theorem ttrllrrll_ok : TrAll (fun i v => TOk Tryz.prog i v ∧ v.zero.cells.size = v.size) 128 152 ttrllrrll := ⟨(fun v h => by cases h; exact ⟨ti152_ok, rfl⟩), ttrllrrlll_ok, ttrllrrllr_ok⟩
theorem ttrllrrlrl_ok : TrAll (fun i v => TOk Tryz.prog i v ∧ v.zero.cells.size = v.size) 256 344 ttrllrrlrl := ⟨(fun v h => by cases h; exact ⟨ti344_ok, rfl⟩), trivial, trivial⟩
theorem ttrllrrlrr_ok : TrAll (fun i v => TOk Tryz.prog i v ∧ v.zero.cells.size = v.size) 256 472 ttrllrrlrr := ⟨(fun v h => by cases h; exact ⟨ti472_ok, rfl⟩), trivial, trivial⟩
theorem ttrllrrlr_ok : TrAll (fun i v => TOk Tryz.prog i v ∧ v.zero.cells.size = v.size) 128 216 ttrllrrlr := ⟨(fun v h => by cases h; exact ⟨ti216_ok, rfl⟩), ttrllrrlrl_ok, ttrllrrlrr_ok⟩
theorem ttrllrrl_ok : TrAll (fun i v => TOk Tryz.prog i v ∧ v.zero.cells.size = v.size) 64 88 ttrllrrl := ⟨(fun v h => by cases h; exact ⟨ti88_ok, rfl⟩), ttrllrrll_ok, ttrllrrlr_ok⟩
theorem ttrllrrrll_ok : TrAll (fun i v => TOk Tryz.prog i v ∧ v.zero.cells.size = v.size) 256 312 ttrllrrrll := ⟨(fun v h => by cases h; exact ⟨ti312_ok, rfl⟩), trivial, trivial⟩
theorem ttrllrrrlr_ok : TrAll (fun i v => TOk Tryz.prog i v ∧ v.zero.cells.size = v.size) 256 440 ttrllrrrlr := ⟨(fun v h => by cases h; exact ⟨ti440_ok, rfl⟩), trivial, trivial⟩
theorem ttrllrrrl_ok : TrAll (fun i v => TOk Tryz.prog i v ∧ v.zero.cells.size = v.size) 128 184 ttrllrrrl := ⟨(fun v h => by cases h; exact ⟨ti184_ok, rfl⟩), ttrllrrrll_ok, ttrllrrrlr_ok⟩
theorem ttrllrrrrl_ok : TrAll (fun i v => TOk Tryz.prog i v ∧ v.zero.cells.size = v.size) 256 376 ttrllrrrrl := ⟨(fun v h => by cases h; exact ⟨ti376_ok, rfl⟩), trivial, trivial⟩
theorem ttrllrrrrr_ok : TrAll (fun i v => TOk Tryz.prog i v ∧ v.zero.cells.size = v.size) 256 504 ttrllrrrrr := ⟨(fun v h => by cases h; exact ⟨ti504_ok, rfl⟩), trivial, trivial⟩
theorem ttrllrrrr_ok : TrAll (fun i v => TOk Tryz.prog i v ∧ v.zero.cells.size = v.size) 128 248 ttrllrrrr := ⟨(fun v h => by cases h; exact ⟨ti248_ok, rfl⟩), ttrllrrrrl_ok, ttrllrrrrr_ok⟩
theorem ttrllrrr_ok : TrAll (fun i v => TOk Tryz.prog i v ∧ v.zero.cells.size = v.size) 64 120 ttrllrrr := ⟨(fun v h => by cases h; exact ⟨ti120_ok, rfl⟩), ttrllrrrl_ok, ttrllrrrr_ok⟩
theorem ttrllrr_ok : TrAll (fun i v => TOk Tryz.prog i v ∧ v.zero.cells.size = v.size) 32 56 ttrllrr := ⟨(fun v h => by cases h; exact ⟨ti56_ok, rfl⟩), ttrllrrl_ok, ttrllrrr_ok⟩
theorem ttrllr_ok : TrAll (fun i v => TOk Tryz.prog i v ∧ v.zero.cells.size = v.size) 16 24 ttrllr := ⟨(fun v h => by cases h; exact ⟨ti24_ok, rfl⟩), ttrllrl_ok, ttrllrr_ok⟩
theorem ttrll_ok : TrAll (fun i v => TOk Tryz.prog i v ∧ v.zero.cells.size = v.size) 8 8 ttrll := ⟨(fun v h => by cases h; exact ⟨ti8_ok, rfl⟩), ttrlll_ok, ttrllr_ok⟩
theorem ttrlrlllll_ok : TrAll (fun i v => TOk Tryz.prog i v ∧ v.zero.cells.size = v.size) 256 260 ttrlrlllll := ⟨(fun v h => by cases h; exact ⟨ti260_ok, rfl⟩), trivial, trivial⟩
theorem ttrlrllllr_ok : TrAll (fun i v => TOk Tryz.prog i v ∧ v.zero.cells.size = v.size) 256 388 ttrlrllllr := ⟨(fun v h => by cases h; exact ⟨ti388_ok, rfl⟩), trivial, trivial⟩
theorem ttrlrllll_ok : TrAll (fun i v => TOk Tryz.prog i v ∧ v.zero.cells.size = v.size) 128 132 ttrlrllll := ⟨(fun v h => by cases h; exact ⟨ti132_ok, rfl⟩), ttrlrlllll_ok, ttrlrllllr_ok⟩
theorem ttrlrlllrl_ok : TrAll (fun i v => TOk Tryz.prog i v ∧ v.zero.cells.size = v.size) 256 324 ttrlrlllrl := ⟨(fun v h => by cases h; exact ⟨ti324_ok, rfl⟩), trivial, trivial⟩
theorem ttrlrlllrr_ok : TrAll (fun i v => TOk Tryz.prog i v ∧ v.zero.cells.size = v.size) 256 452 ttrlrlllrr := ⟨(fun v h => by cases h; exact ⟨ti452_ok, rfl⟩), trivial, trivial⟩
theorem ttrlrlllr_ok : TrAll (fun i v => TOk Tryz.prog i v ∧ v.zero.cells.size = v.size) 128 196 ttrlrlllr := ⟨(fun v h => by cases h; exact ⟨ti196_ok, rfl⟩), ttrlrlllrl_ok, ttrlrlllrr_ok⟩
theorem ttrlrlll_ok : TrAll (fun i v => TOk Tryz.prog i v ∧ v.zero.cells.size = v.size) 64 68 ttrlrlll := ⟨(fun v h => by cases h; exact ⟨ti68_ok, rfl⟩), ttrlrllll_ok, ttrlrlllr_ok⟩
theorem ttrlrllrll_ok : TrAll (fun i v => TOk Tryz.prog i v ∧ v.zero.cells.size = v.size) 256 292 ttrlrllrll := ⟨(fun v h => by cases h; exact ⟨ti292_ok, rfl⟩), trivial, trivial⟩
theorem ttrlrllrlr_ok : TrAll (fun i v => TOk Tryz.prog i v ∧ v.zero.cells.size = v.size) 256 420 ttrlrllrlr := ⟨(fun v h => by cases h; exact ⟨ti420_ok, rfl⟩), trivial, trivial⟩
theorem ttrlrllrl_ok : TrAll (fun i v => TOk Tryz.prog i v ∧ v.zero.cells.size = v.size) 128 164 ttrlrllrl := ⟨(fun v h => by cases h; exact ⟨ti164_ok, rfl⟩), ttrlrllrll_ok, ttrlrllrlr_ok⟩
theorem ttrlrllrrl_ok : TrAll (fun i v => TOk Tryz.prog i v ∧ v.zero.cells.size = v.size) 256 356 ttrlrllrrl := ⟨(fun v h => by cases h; exact ⟨ti356_ok, rfl⟩), trivial, trivial⟩
theorem ttrlrllrrr_ok : TrAll (fun i v => TOk Tryz.prog i v ∧ v.zero.cells.size = v.size) 256 484 ttrlrllrrr := ⟨(fun v h => by cases h; exact ⟨ti484_ok, rfl⟩), trivial, trivial⟩
theorem ttrlrllrr_ok : TrAll (fun i v => TOk Tryz.prog i v ∧ v.zero.cells.size = v.size) 128 228 ttrlrllrr := ⟨(fun v h => by cases h; exact ⟨ti228_ok, rfl⟩), ttrlrllrrl_ok, ttrlrllrrr_ok⟩
theorem ttrlrllr_ok : TrAll (fun i v => TOk Tryz.prog i v ∧ v.zero.cells.size = v.size) 64 100 ttrlrllr := ⟨(fun v h => by cases h; exact ⟨ti100_ok, rfl⟩), ttrlrllrl_ok, ttrlrllrr_ok⟩
theorem ttrlrll_ok : TrAll (fun i v => TOk Tryz.prog i v ∧ v.zero.cells.size = v.size) 32 36 ttrlrll := ⟨(fun v h => by cases h; exact ⟨ti36_ok, rfl⟩), ttrlrlll_ok, ttrlrllr_ok⟩
theorem ttrlrlrlll_ok : TrAll (fun i v => TOk Tryz.prog i v ∧ v.zero.cells.size = v.size) 256 276 ttrlrlrlll := ⟨(fun v h => by cases h; exact ⟨ti276_ok, rfl⟩), trivial, trivial⟩
theorem ttrlrlrllr_ok : TrAll (fun i v => TOk Tryz.prog i v ∧ v.zero.cells.size = v.size) 256 404 ttrlrlrllr := ⟨(fun v h => by cases h; exact ⟨ti404_ok, rfl⟩), trivial, trivial⟩
theorem ttrlrlrll_ok : TrAll (fun i v => TOk Tryz.prog i v ∧ v.zero.cells.size = v.size) 128 148 ttrlrlrll := ⟨(fun v h => by cases h; exact ⟨ti148_ok, rfl⟩), ttrlrlrlll_ok, ttrlrlrllr_ok⟩
theorem ttrlrlrlrl_ok : TrAll (fun i v => TOk Tryz.prog i v ∧ v.zero.cells.size = v.size) 256 340 ttrlrlrlrl := ⟨(fun v h => by cases h; exact ⟨ti340_ok, rfl⟩), trivial, trivial⟩
theorem ttrlrlrlrr_ok : TrAll (fun i v => TOk Tryz.prog i v ∧ v.zero.cells.size = v.size) 256 468 ttrlrlrlrr := ⟨(fun v h => by cases h; exact ⟨ti468_ok, rfl⟩), trivial, trivial⟩
theorem ttrlrlrlr_ok : TrAll (fun i v => TOk Tryz.prog i v ∧ v.zero.cells.size = v.size) 128 212 ttrlrlrlr := ⟨(fun v h => by cases h; exact ⟨ti212_ok, rfl⟩), ttrlrlrlrl_ok, ttrlrlrlrr_ok⟩
theorem ttrlrlrl_ok : TrAll (fun i v => TOk Tryz.prog i v ∧ v.zero.cells.size = v.size) 64 84 ttrlrlrl := ⟨(fun v h => by cases h; exact ⟨ti84_ok, rfl⟩), ttrlrlrll_ok, ttrlrlrlr_ok⟩
theorem ttrlrlrrll_ok : TrAll (fun i v => TOk Tryz.prog i v ∧ v.zero.cells.size = v.size) 256 308 ttrlrlrrll := ⟨(fun v h => by cases h; exact ⟨ti308_ok, rfl⟩), trivial, trivial⟩
theorem ttrlrlrrlr_ok : TrAll (fun i v => TOk Tryz.prog i v ∧ v.zero.cells.size = v.size) 256 436 ttrlrlrrlr := ⟨(fun v h => by cases h; exact ⟨ti436_ok, rfl⟩), trivial, trivial⟩
theorem ttrlrlrrl_ok : TrAll (fun i v => TOk Tryz.prog i v ∧ v.zero.cells.size = v.size) 128 180 ttrlrlrrl := ⟨(fun v h => by cases h; exact ⟨ti180_ok, rfl⟩), ttrlrlrrll_ok, ttrlrlrrlr_ok⟩
theorem ttrlrlrrrl_ok : TrAll (fun i v => TOk Tryz.prog i v ∧ v.zero.cells.size = v.size) 256 372 ttrlrlrrrl := ⟨(fun v h => by cases h; exact ⟨ti372_ok, rfl⟩), trivial, trivial⟩
theorem ttrlrlrrrr_ok : TrAll (fun i v => TOk Tryz.prog i v ∧ v.zero.cells.size = v.size) 256 500 ttrlrlrrrr := ⟨(fun v h => by cases h; exact ⟨ti500_ok, rfl⟩), trivial, trivial⟩
theorem ttrlrlrrr_ok : TrAll (fun i v => TOk Tryz.prog i v ∧ v.zero.cells.size = v.size) 128 244 ttrlrlrrr := ⟨(fun v h => by cases h; exact ⟨ti244_ok, rfl⟩), ttrlrlrrrl_ok, ttrlrlrrrr_ok⟩
theorem ttrlrlrr_ok : TrAll (fun i v => TOk Tryz.prog i v ∧ v.zero.cells.size = v.size) 64 116 ttrlrlrr := ⟨(fun v h => by cases h; exact ⟨ti116_ok, rfl⟩), ttrlrlrrl_ok, ttrlrlrrr_ok⟩
theorem ttrlrlr_ok : TrAll (fun i v => TOk Tryz.prog i v ∧ v.zero.cells.size = v.size) 32 52 ttrlrlr := ⟨(fun v h => by cases h; exact ⟨ti52_ok, rfl⟩), ttrlrlrl_ok, ttrlrlrr_ok⟩
theorem ttrlrl_ok : TrAll (fun i v => TOk Tryz.prog i v ∧ v.zero.cells.size = v.size) 16 20 ttrlrl := ⟨(fun v h => by cases h; exact ⟨ti20_ok, rfl⟩), ttrlrll_ok, ttrlrlr_ok⟩
theorem ttrlrrllll_ok : TrAll (fun i v => TOk Tryz.prog i v ∧ v.zero.cells.size = v.size) 256 268 ttrlrrllll := ⟨(fun v h => by cases h; exact ⟨ti268_ok, rfl⟩), trivial, trivial⟩
theorem ttrlrrlllr_ok : TrAll (fun i v => TOk Tryz.prog i v ∧ v.zero.cells.size = v.size) 256 396 ttrlrrlllr := ⟨(fun v h => by cases h; exact ⟨ti396_ok, rfl⟩), trivial, trivial⟩
theorem ttrlrrlll_ok : TrAll (fun i v => TOk Tryz.prog i v ∧ v.zero.cells.size = v.size) 128 140 ttrlrrlll := ⟨(fun v h => by cases h; exact ⟨ti140_ok, rfl⟩), ttrlrrllll_ok, ttrlrrlllr_ok⟩
theorem ttrlrrllrl_ok : TrAll (fun i v => TOk Tryz.prog i v ∧ v.zero.cells.size = v.size) 256 332 ttrlrrllrl := ⟨(fun v h => by cases h; exact ⟨ti332_ok, rfl⟩), trivial, trivial⟩
theorem ttrlrrllrr_ok : TrAll (fun i v => TOk Tryz.prog i v ∧ v.zero.cells.size = v.size) 256 460 ttrlrrllrr := ⟨(fun v h => by cases h; exact ⟨ti460_ok, rfl⟩), trivial, trivial⟩
theorem ttrlrrllr_ok : TrAll (fun i v => TOk Tryz.prog i v ∧ v.zero.cells.size = v.size) 128 204 ttrlrrllr := ⟨(fun v h => by cases h; exact ⟨ti204_ok, rfl⟩), ttrlrrllrl_ok, ttrlrrllrr_ok⟩
theorem ttrlrrll_ok : TrAll (fun i v => TOk Tryz.prog i v ∧ v.zero.cells.size = v.size) 64 76 ttrlrrll := ⟨(fun v h => by cases h; exact ⟨ti76_ok, rfl⟩), ttrlrrlll_ok, ttrlrrllr_ok⟩
theorem ttrlrrlrll_ok : TrAll (fun i v => TOk Tryz.prog i v ∧ v.zero.cells.size = v.size) 256 300 ttrlrrlrll := ⟨(fun v h => by cases h; exact ⟨ti300_ok, rfl⟩), trivial, trivial⟩
theorem ttrlrrlrlr_ok : TrAll (fun i v => TOk Tryz.prog i v ∧ v.zero.cells.size = v.size) 256 428 ttrlrrlrlr := ⟨(fun v h => by cases h; exact ⟨ti428_ok, rfl⟩), trivial, trivial⟩
theorem ttrlrrlrl_ok : TrAll (fun i v => TOk Tryz.prog i v ∧ v.zero.cells.size = v.size) 128 172 ttrlrrlrl := ⟨(fun v h => by cases h; exact ⟨ti172_ok, rfl⟩), ttrlrrlrll_ok, ttrlrrlrlr_ok⟩
theorem ttrlrrlrrl_ok : TrAll (fun i v => TOk Tryz.prog i v ∧ v.zero.cells.size = v.size) 256 364 ttrlrrlrrl := ⟨(fun v h => by cases h; exact ⟨ti364_ok, rfl⟩), trivial, trivial⟩
theorem ttrlrrlrrr_ok : TrAll (fun i v => TOk Tryz.prog i v ∧ v.zero.cells.size = v.size) 256 492 ttrlrrlrrr := ⟨(fun v h => by cases h; exact ⟨ti492_ok, rfl⟩), trivial, trivial⟩
theorem ttrlrrlrr_ok : TrAll (fun i v => TOk Tryz.prog i v ∧ v.zero.cells.size = v.size) 128 236 ttrlrrlrr := ⟨(fun v h => by cases h; exact ⟨ti236_ok, rfl⟩), ttrlrrlrrl_ok, ttrlrrlrrr_ok⟩
theorem ttrlrrlr_ok : TrAll (fun i v => TOk Tryz.prog i v ∧ v.zero.cells.size = v.size) 64 108 ttrlrrlr := ⟨(fun v h => by cases h; exact ⟨ti108_ok, rfl⟩), ttrlrrlrl_ok, ttrlrrlrr_ok⟩
theorem ttrlrrl_ok : TrAll (fun i v => TOk Tryz.prog i v ∧ v.zero.cells.size = v.size) 32 44 ttrlrrl := ⟨(fun v h => by cases h; exact ⟨ti44_ok, rfl⟩), ttrlrrll_ok, ttrlrrlr_ok⟩
theorem ttrlrrrlll_ok : TrAll (fun i v => TOk Tryz.prog i v ∧ v.zero.cells.size = v.size) 256 284 ttrlrrrlll := ⟨(fun v h => by cases h; exact ⟨ti284_ok, rfl⟩), trivial, trivial⟩
theorem ttrlrrrllr_ok : TrAll (fun i v => TOk Tryz.prog i v ∧ v.zero.cells.size = v.size) 256 412 ttrlrrrllr := ⟨(fun v h => by cases h; exact ⟨ti412_ok, rfl⟩), trivial, trivial⟩
theorem ttrlrrrll_ok : TrAll (fun i v => TOk Tryz.prog i v ∧ v.zero.cells.size = v.size) 128 156 ttrlrrrll := ⟨(fun v h => by cases h; exact ⟨ti156_ok, rfl⟩), ttrlrrrlll_ok, ttrlrrrllr_ok⟩
theorem ttrlrrrlrl_ok : TrAll (fun i v => TOk Tryz.prog i v ∧ v.zero.cells.size = v.size) 256 348 ttrlrrrlrl := ⟨(fun v h => by cases h; exact ⟨ti348_ok, rfl⟩), trivial, trivial⟩
theorem ttrlrrrlrr_ok : TrAll (fun i v => TOk Tryz.prog i v ∧ v.zero.cells.size = v.size) 256 476 ttrlrrrlrr := ⟨(fun v h => by cases h; exact ⟨ti476_ok, rfl⟩), trivial, trivial⟩
theorem ttrlrrrlr_ok : TrAll (fun i v => TOk Tryz.prog i v ∧ v.zero.cells.size = v.size) 128 220 ttrlrrrlr := ⟨(fun v h => by cases h; exact ⟨ti220_ok, rfl⟩), ttrlrrrlrl_ok, ttrlrrrlrr_ok⟩
theorem ttrlrrrl_ok : TrAll (fun i v => TOk Tryz.prog i v ∧ v.zero.cells.size = v.size) 64 92 ttrlrrrl := ⟨(fun v h => by cases h; exact ⟨ti92_ok, rfl⟩), ttrlrrrll_ok, ttrlrrrlr_ok⟩
theorem ttrlrrrrll_ok : TrAll (fun i v => TOk Tryz.prog i v ∧ v.zero.cells.size = v.size) 256 316 ttrlrrrrll := ⟨(fun v h => by cases h; exact ⟨ti316_ok, rfl⟩), trivial, trivial⟩
theorem ttrlrrrrlr_ok : TrAll (fun i v => TOk Tryz.prog i v ∧ v.zero.cells.size = v.size) 256 444 ttrlrrrrlr := ⟨(fun v h => by cases h; exact ⟨ti444_ok, rfl⟩), trivial, trivial⟩
theorem ttrlrrrrl_ok : TrAll (fun i v => TOk Tryz.prog i v ∧ v.zero.cells.size = v.size) 128 188 ttrlrrrrl := ⟨(fun v h => by cases h; exact ⟨ti188_ok, rfl⟩), ttrlrrrrll_ok, ttrlrrrrlr_ok⟩
theorem ttrlrrrrrl_ok : TrAll (fun i v => TOk Tryz.prog i v ∧ v.zero.cells.size = v.size) 256 380 ttrlrrrrrl := ⟨(fun v h => by cases h; exact ⟨ti380_ok, rfl⟩), trivial, trivial⟩
theorem ttrlrrrrrr_ok : TrAll (fun i v => TOk Tryz.prog i v ∧ v.zero.cells.size = v.size) 256 508 ttrlrrrrrr := ⟨(fun v h => by cases h; exact ⟨ti508_ok, rfl⟩), trivial, trivial⟩
theorem ttrlrrrrr_ok : TrAll (fun i v => TOk Tryz.prog i v ∧ v.zero.cells.size = v.size) 128 252 ttrlrrrrr := ⟨(fun v h => by cases h; exact ⟨ti252_ok, rfl⟩), ttrlrrrrrl_ok, ttrlrrrrrr_ok⟩
theorem ttrlrrrr_ok : TrAll (fun i v => TOk Tryz.prog i v ∧ v.zero.cells.size = v.size) 64 124 ttrlrrrr := ⟨(fun v h => by cases h; exact ⟨ti124_ok, rfl⟩), ttrlrrrrl_ok, ttrlrrrrr_ok⟩
theorem ttrlrrr_ok : TrAll (fun i v => TOk Tryz.prog i v ∧ v.zero.cells.size = v.size) 32 60 ttrlrrr := ⟨(fun v h => by cases h; exact ⟨ti60_ok, rfl⟩), ttrlrrrl_ok, ttrlrrrr_ok⟩
theorem ttrlrr_ok : TrAll (fun i v => TOk Tryz.prog i v ∧ v.zero.cells.size = v.size) 16 28 ttrlrr := ⟨(fun v h => by cases h; exact ⟨ti28_ok, rfl⟩), ttrlrrl_ok, ttrlrrr_ok⟩
theorem ttrlr_ok : TrAll (fun i v => TOk Tryz.prog i v ∧ v.zero.cells.size = v.size) 8 12 ttrlr := ⟨(fun v h => by cases h; exact ⟨ti12_ok, rfl⟩), ttrlrl_ok, ttrlrr_ok⟩
theorem ttrl_ok : TrAll (fun i v => TOk Tryz.prog i v ∧ v.zero.cells.size = v.size) 4 4 ttrl := ⟨(fun v h => by cases h; exact ⟨ti4_ok, rfl⟩), ttrll_ok, ttrlr_ok⟩
theorem ttrrllllll_ok : TrAll (fun i v => TOk Tryz.prog i v ∧ v.zero.cells.size = v.size) 256 258 ttrrllllll := ⟨(fun v h => by cases h; exact ⟨ti258_ok, rfl⟩), trivial, trivial⟩
theorem ttrrlllllr_ok : TrAll (fun i v => TOk Tryz.prog i v ∧ v.zero.cells.size = v.size) 256 386 ttrrlllllr := ⟨(fun v h => by cases h; exact ⟨ti386_ok, rfl⟩), trivial, trivial⟩
theorem ttrrlllll_ok : TrAll (fun i v => TOk Tryz.prog i v ∧ v.zero.cells.size = v.size) 128 130 ttrrlllll := ⟨(fun v h => by cases h; exact ⟨ti130_ok, rfl⟩), ttrrllllll_ok, ttrrlllllr_ok⟩
theorem ttrrllllrl_ok : TrAll (fun i v => TOk Tryz.prog i v ∧ v.zero.cells.size = v.size) 256 322 ttrrllllrl := ⟨(fun v h => by cases h; exact ⟨ti322_ok, rfl⟩), trivial, trivial⟩
theorem ttrrllllrr_ok : TrAll (fun i v => TOk Tryz.prog i v ∧ v.zero.cells.size = v.size) 256 450 ttrrllllrr := ⟨(fun v h => by cases h; exact ⟨ti450_ok, rfl⟩), trivial, trivial⟩
theorem ttrrllllr_ok : TrAll (fun i v => TOk Tryz.prog i v ∧ v.zero.cells.size = v.size) 128 194 ttrrllllr := ⟨(fun v h => by cases h; exact ⟨ti194_ok, rfl⟩), ttrrllllrl_ok, ttrrllllrr_ok⟩
theorem ttrrllll_ok : TrAll (fun i v => TOk Tryz.prog i v ∧ v.zero.cells.size = v.size) 64 66 ttrrllll := ⟨(fun v h => by cases h; exact ⟨ti66_ok, rfl⟩), ttrrlllll_ok, ttrrllllr_ok⟩
theorem ttrrlllrll_ok : TrAll (fun i v => TOk Tryz.prog i v ∧ v.zero.cells.size = v.size) 256 290 ttrrlllrll := ⟨(fun v h => by cases h; exact ⟨ti290_ok, rfl⟩), trivial, trivial⟩
theorem ttrrlllrlr_ok : TrAll (fun i v => TOk Tryz.prog i v ∧ v.zero.cells.size = v.size) 256 418 ttrrlllrlr := ⟨(fun v h => by cases h; exact ⟨ti418_ok, rfl⟩), trivial, trivial⟩
theorem ttrrlllrl_ok : TrAll (fun i v => TOk Tryz.prog i v ∧ v.zero.cells.size = v.size) 128 162 ttrrlllrl := ⟨(fun v h => by cases h; exact ⟨ti162_ok, rfl⟩), ttrrlllrll_ok, ttrrlllrlr_ok⟩
theorem ttrrlllrrl_ok : TrAll (fun i v => TOk Tryz.prog i v ∧ v.zero.cells.size = v.size) 256 354 ttrrlllrrl := ⟨(fun v h => by cases h; exact ⟨ti354_ok, rfl⟩), trivial, trivial⟩
theorem ttrrlllrrr_ok : TrAll (fun i v => TOk Tryz.prog i v ∧ v.zero.cells.size = v.size) 256 482 ttrrlllrrr := ⟨(fun v h => by cases h; exact ⟨ti482_ok, rfl⟩), trivial, trivial⟩
theorem ttrrlllrr_ok : TrAll (fun i v => TOk Tryz.prog i v ∧ v.zero.cells.size = v.size) 128 226 ttrrlllrr := ⟨(fun v h => by cases h; exact ⟨ti226_ok, rfl⟩), ttrrlllrrl_ok, ttrrlllrrr_ok⟩
theorem ttrrlllr_ok : TrAll (fun i v => TOk Tryz.prog i v ∧ v.zero.cells.size = v.size) 64 98 ttrrlllr := ⟨(fun v h => by cases h; exact ⟨ti98_ok, rfl⟩), ttrrlllrl_ok, ttrrlllrr_ok⟩
theorem ttrrlll_ok : TrAll (fun i v => TOk Tryz.prog i v ∧ v.zero.cells.size = v.size) 32 34 ttrrlll := ⟨(fun v h => by cases h; exact ⟨ti34_ok, rfl⟩), ttrrllll_ok, ttrrlllr_ok⟩
theorem ttrrllrlll_ok : TrAll (fun i v => TOk Tryz.prog i v ∧ v.zero.cells.size = v.size) 256 274 ttrrllrlll := ⟨(fun v h => by cases h; exact ⟨ti274_ok, rfl⟩), trivial, trivial⟩
theorem ttrrllrllr_ok : TrAll (fun i v => TOk Tryz.prog i v ∧ v.zero.cells.size = v.size) 256 402 ttrrllrllr := ⟨(fun v h => by cases h; exact ⟨ti402_ok, rfl⟩), trivial, trivial⟩
theorem ttrrllrll_ok : TrAll (fun i v => TOk Tryz.prog i v ∧ v.zero.cells.size = v.size) 128 146 ttrrllrll := ⟨(fun v h => by cases h; exact ⟨ti146_ok, rfl⟩), ttrrllrlll_ok, ttrrllrllr_ok⟩
theorem ttrrllrlrl_ok : TrAll (fun i v => TOk Tryz.prog i v ∧ v.zero.cells.size = v.size) 256 338 ttrrllrlrl := ⟨(fun v h => by cases h; exact ⟨ti338_ok, rfl⟩), trivial, trivial⟩
theorem ttrrllrlrr_ok : TrAll (fun i v => TOk Tryz.prog i v ∧ v.zero.cells.size = v.size) 256 466 ttrrllrlrr := ⟨(fun v h => by cases h; exact ⟨ti466_ok, rfl⟩), trivial, trivial⟩
theorem ttrrllrlr_ok : TrAll (fun i v => TOk Tryz.prog i v ∧ v.zero.cells.size = v.size) 128 210 ttrrllrlr := ⟨(fun v h => by cases h; exact ⟨ti210_ok, rfl⟩), ttrrllrlrl_ok, ttrrllrlrr_ok⟩
theorem ttrrllrl_ok : TrAll (fun i v => TOk Tryz.prog i v ∧ v.zero.cells.size = v.size) 64 82 ttrrllrl := ⟨(fun v h => by cases h; exact ⟨ti82_ok, rfl⟩), ttrrllrll_ok, ttrrllrlr_ok⟩
theorem ttrrllrrll_ok : TrAll (fun i v => TOk Tryz.prog i v ∧ v.zero.cells.size = v.size) 256 306 ttrrllrrll := ⟨(fun v h => by cases h; exact ⟨ti306_ok, rfl⟩), trivial, trivial⟩
theorem ttrrllrrlr_ok : TrAll (fun i v => TOk Tryz.prog i v ∧ v.zero.cells.size = v.size) 256 434 ttrrllrrlr := ⟨(fun v h => by cases h; exact ⟨ti434_ok, rfl⟩), trivial, trivial⟩
theorem ttrrllrrl_ok : TrAll (fun i v => TOk Tryz.prog i v ∧ v.zero.cells.size = v.size) 128 178 ttrrllrrl := ⟨(fun v h => by cases h; exact ⟨ti178_ok, rfl⟩), ttrrllrrll_ok, ttrrllrrlr_ok⟩
theorem ttrrllrrrl_ok : TrAll (fun i v => TOk Tryz.prog i v ∧ v.zero.cells.size = v.size) 256 370 ttrrllrrrl := ⟨(fun v h => by cases h; exact ⟨ti370_ok, rfl⟩), trivial, trivial⟩
theorem ttrrllrrrr_ok : TrAll (fun i v => TOk Tryz.prog i v ∧ v.zero.cells.size = v.size) 256 498 ttrrllrrrr := ⟨(fun v h => by cases h; exact ⟨ti498_ok, rfl⟩), trivial, trivial⟩
theorem ttrrllrrr_ok : TrAll (fun i v => TOk Tryz.prog i v ∧ v.zero.cells.size = v.size) 128 242 ttrrllrrr := ⟨(fun v h => by cases h; exact ⟨ti242_ok, rfl⟩), ttrrllrrrl_ok, ttrrllrrrr_ok⟩
theorem ttrrllrr_ok : TrAll (fun i v => TOk Tryz.prog i v ∧ v.zero.cells.size = v.size) 64 114 ttrrllrr := ⟨(fun v h => by cases h; exact ⟨ti114_ok, rfl⟩), ttrrllrrl_ok, ttrrllrrr_ok⟩
theorem ttrrllr_ok : TrAll (fun i v => TOk Tryz.prog i v ∧ v.zero.cells.size = v.size) 32 50 ttrrllr := ⟨(fun v h => by cases h; exact ⟨ti50_ok, rfl⟩), ttrrllrl_ok, ttrrllrr_ok⟩
theorem ttrrll_ok : TrAll (fun i v => TOk Tryz.prog i v ∧ v.zero.cells.size = v.size) 16 18 ttrrll := ⟨(fun v h => by cases h; exact ⟨ti18_ok, rfl⟩), ttrrlll_ok, ttrrllr_ok⟩
theorem ttrrlrllll_ok : TrAll (fun i v => TOk Tryz.prog i v ∧ v.zero.cells.size = v.size) 256 266 ttrrlrllll := ⟨(fun v h => by cases h; exact ⟨ti266_ok, rfl⟩), trivial, trivial⟩
theorem ttrrlrlllr_ok : TrAll (fun i v => TOk Tryz.prog i v ∧ v.zero.cells.size = v.size) 256 394 ttrrlrlllr := ⟨(fun v h => by cases h; exact ⟨ti394_ok, rfl⟩), trivial, trivial⟩
theorem ttrrlrlll_ok : TrAll (fun i v => TOk Tryz.prog i v ∧ v.zero.cells.size = v.size) 128 138 ttrrlrlll := ⟨(fun v h => by cases h; exact ⟨ti138_ok, rfl⟩), ttrrlrllll_ok, ttrrlrlllr_ok⟩
theorem ttrrlrllrl_ok : TrAll (fun i v => TOk Tryz.prog i v ∧ v.zero.cells.size = v.size) 256 330 ttrrlrllrl := ⟨(fun v h => by cases h; exact ⟨ti330_ok, rfl⟩), trivial, trivial⟩
theorem ttrrlrllrr_ok : TrAll (fun i v => TOk Tryz.prog i v ∧ v.zero.cells.size = v.size) 256 458 ttrrlrllrr := ⟨(fun v h => by cases h; exact ⟨ti458_ok, rfl⟩), trivial, trivial⟩
theorem ttrrlrllr_ok : TrAll (fun i v => TOk Tryz.prog i v ∧ v.zero.cells.size = v.size) 128 202 ttrrlrllr := ⟨(fun v h => by cases h; exact ⟨ti202_ok, rfl⟩), ttrrlrllrl_ok, ttrrlrllrr_ok⟩
theorem ttrrlrll_ok : TrAll (fun i v => TOk Tryz.prog i v ∧ v.zero.cells.size = v.size) 64 74 ttrrlrll := ⟨(fun v h => by cases h; exact ⟨ti74_ok, rfl⟩), ttrrlrlll_ok, ttrrlrllr_ok⟩
theorem ttrrlrlrll_ok : TrAll (fun i v => TOk Tryz.prog i v ∧ v.zero.cells.size = v.size) 256 298 ttrrlrlrll := ⟨(fun v h => by cases h; exact ⟨ti298_ok, rfl⟩), trivial, trivial⟩
theorem ttrrlrlrlr_ok : TrAll (fun i v => TOk Tryz.prog i v ∧ v.zero.cells.size = v.size) 256 426 ttrrlrlrlr := ⟨(fun v h => by cases h; exact ⟨ti426_ok, rfl⟩), trivial, trivial⟩
theorem ttrrlrlrl_ok : TrAll (fun i v => TOk Tryz.prog i v ∧ v.zero.cells.size = v.size) 128 170 ttrrlrlrl := ⟨(fun v h => by cases h; exact ⟨ti170_ok, rfl⟩), ttrrlrlrll_ok, ttrrlrlrlr_ok⟩
theorem ttrrlrlrrl_ok : TrAll (fun i v => TOk Tryz.prog i v ∧ v.zero.cells.size = v.size) 256 362 ttrrlrlrrl := ⟨(fun v h => by cases h; exact ⟨ti362_ok, rfl⟩), trivial, trivial⟩
theorem ttrrlrlrrr_ok : TrAll (fun i v => TOk Tryz.prog i v ∧ v.zero.cells.size = v.size) 256 490 ttrrlrlrrr := ⟨(fun v h => by cases h; exact ⟨ti490_ok, rfl⟩), trivial, trivial⟩
theorem ttrrlrlrr_ok : TrAll (fun i v => TOk Tryz.prog i v ∧ v.zero.cells.size = v.size) 128 234 ttrrlrlrr := ⟨(fun v h => by cases h; exact ⟨ti234_ok, rfl⟩), ttrrlrlrrl_ok, ttrrlrlrrr_ok⟩
theorem ttrrlrlr_ok : TrAll (fun i v => TOk Tryz.prog i v ∧ v.zero.cells.size = v.size) 64 106 ttrrlrlr := ⟨(fun v h => by cases h; exact ⟨ti106_ok, rfl⟩), ttrrlrlrl_ok, ttrrlrlrr_ok⟩
theorem ttrrlrl_ok : TrAll (fun i v => TOk Tryz.prog i v ∧ v.zero.cells.size = v.size) 32 42 ttrrlrl := ⟨(fun v h => by cases h; exact ⟨ti42_ok, rfl⟩), ttrrlrll_ok, ttrrlrlr_ok⟩
theorem ttrrlrrlll_ok : TrAll (fun i v => TOk Tryz.prog i v ∧ v.zero.cells.size = v.size) 256 282 ttrrlrrlll := ⟨(fun v h => by cases h; exact ⟨ti282_ok, rfl⟩), trivial, trivial⟩
theorem ttrrlrrllr_ok : TrAll (fun i v => TOk Tryz.prog i v ∧ v.zero.cells.size = v.size) 256 410 ttrrlrrllr := ⟨(fun v h => by cases h; exact ⟨ti410_ok, rfl⟩), trivial, trivial⟩
theorem ttrrlrrll_ok : TrAll (fun i v => TOk Tryz.prog i v ∧ v.zero.cells.size = v.size) 128 154 ttrrlrrll := ⟨(fun v h => by cases h; exact ⟨ti154_ok, rfl⟩), ttrrlrrlll_ok, ttrrlrrllr_ok⟩
theorem ttrrlrrlrl_ok : TrAll (fun i v => TOk Tryz.prog i v ∧ v.zero.cells.size = v.size) 256 346 ttrrlrrlrl := ⟨(fun v h => by cases h; exact ⟨ti346_ok, rfl⟩), trivial, trivial⟩
theorem ttrrlrrlrr_ok : TrAll (fun i v => TOk Tryz.prog i v ∧ v.zero.cells.size = v.size) 256 474 ttrrlrrlrr := ⟨(fun v h => by cases h; exact ⟨ti474_ok, rfl⟩), trivial, trivial⟩
theorem ttrrlrrlr_ok : TrAll (fun i v => TOk Tryz.prog i v ∧ v.zero.cells.size = v.size) 128 218 ttrrlrrlr := ⟨(fun v h => by cases h; exact ⟨ti218_ok, rfl⟩), ttrrlrrlrl_ok, ttrrlrrlrr_ok⟩
theorem ttrrlrrl_ok : TrAll (fun i v => TOk Tryz.prog i v ∧ v.zero.cells.size = v.size) 64 90 ttrrlrrl := ⟨(fun v h => by cases h; exact ⟨ti90_ok, rfl⟩), ttrrlrrll_ok, ttrrlrrlr_ok⟩
theorem ttrrlrrrll_ok : TrAll (fun i v => TOk Tryz.prog i v ∧ v.zero.cells.size = v.size) 256 314 ttrrlrrrll := ⟨(fun v h => by cases h; exact ⟨ti314_ok, rfl⟩), trivial, trivial⟩
theorem ttrrlrrrlr_ok : TrAll (fun i v => TOk Tryz.prog i v ∧ v.zero.cells.size = v.size) 256 442 ttrrlrrrlr := ⟨(fun v h => by cases h; exact ⟨ti442_ok, rfl⟩), trivial, trivial⟩
theorem ttrrlrrrl_ok : TrAll (fun i v => TOk Tryz.prog i v ∧ v.zero.cells.size = v.size) 128 186 ttrrlrrrl := ⟨(fun v h => by cases h; exact ⟨ti186_ok, rfl⟩), ttrrlrrrll_ok, ttrrlrrrlr_ok⟩
theorem ttrrlrrrrl_ok : TrAll (fun i v => TOk Tryz.prog i v ∧ v.zero.cells.size = v.size) 256 378 ttrrlrrrrl := ⟨(fun v h => by cases h; exact ⟨ti378_ok, rfl⟩), trivial, trivial⟩
theorem ttrrlrrrrr_ok : TrAll (fun i v => TOk Tryz.prog i v ∧ v.zero.cells.size = v.size) 256 506 ttrrlrrrrr := ⟨(fun v h => by cases h; exact ⟨ti506_ok, rfl⟩), trivial, trivial⟩
theorem ttrrlrrrr_ok : TrAll (fun i v => TOk Tryz.prog i v ∧ v.zero.cells.size = v.size) 128 250 ttrrlrrrr := ⟨(fun v h => by cases h; exact ⟨ti250_ok, rfl⟩), ttrrlrrrrl_ok, ttrrlrrrrr_ok⟩
theorem ttrrlrrr_ok : TrAll (fun i v => TOk Tryz.prog i v ∧ v.zero.cells.size = v.size) 64 122 ttrrlrrr := ⟨(fun v h => by cases h; exact ⟨ti122_ok, rfl⟩), ttrrlrrrl_ok, ttrrlrrrr_ok⟩
theorem ttrrlrr_ok : TrAll (fun i v => TOk Tryz.prog i v ∧ v.zero.cells.size = v.size) 32 58 ttrrlrr := ⟨(fun v h => by cases h; exact ⟨ti58_ok, rfl⟩), ttrrlrrl_ok, ttrrlrrr_ok⟩
theorem ttrrlr_ok : TrAll (fun i v => TOk Tryz.prog i v ∧ v.zero.cells.size = v.size) 16 26 ttrrlr := ⟨(fun v h => by cases h; exact ⟨ti26_ok, rfl⟩), ttrrlrl_ok, ttrrlrr_ok⟩
theorem ttrrl_ok : TrAll (fun i v => TOk Tryz.prog i v ∧ v.zero.cells.size = v.size) 8 10 ttrrl := ⟨(fun v h => by cases h; exact ⟨ti10_ok, rfl⟩), ttrrll_ok, ttrrlr_ok⟩
theorem ttrrrlllll_ok : TrAll (fun i v => TOk Tryz.prog i v ∧ v.zero.cells.size = v.size) 256 262 ttrrrlllll := ⟨(fun v h => by cases h; exact ⟨ti262_ok, rfl⟩), trivial, trivial⟩
theorem ttrrrllllr_ok : TrAll (fun i v => TOk Tryz.prog i v ∧ v.zero.cells.size = v.size) 256 390 ttrrrllllr := ⟨(fun v h => by cases h; exact ⟨ti390_ok, rfl⟩), trivial, trivial⟩
theorem ttrrrllll_ok : TrAll (fun i v => TOk Tryz.prog i v ∧ v.zero.cells.size = v.size) 128 134 ttrrrllll := ⟨(fun v h => by cases h; exact ⟨ti134_ok, rfl⟩), ttrrrlllll_ok, ttrrrllllr_ok⟩
theorem ttrrrlllrl_ok : TrAll (fun i v => TOk Tryz.prog i v ∧ v.zero.cells.size = v.size) 256 326 ttrrrlllrl := ⟨(fun v h => by cases h; exact ⟨ti326_ok, rfl⟩), trivial, trivial⟩
theorem ttrrrlllrr_ok : TrAll (fun i v => TOk Tryz.prog i v ∧ v.zero.cells.size = v.size) 256 454 ttrrrlllrr := ⟨(fun v h => by cases h; exact ⟨ti454_ok, rfl⟩), trivial, trivial⟩
theorem ttrrrlllr_ok : TrAll (fun i v => TOk Tryz.prog i v ∧ v.zero.cells.size = v.size) 128 198 ttrrrlllr := ⟨(fun v h => by cases h; exact ⟨ti198_ok, rfl⟩), ttrrrlllrl_ok, ttrrrlllrr_ok⟩
theorem ttrrrlll_ok : TrAll (fun i v => TOk Tryz.prog i v ∧ v.zero.cells.size = v.size) 64 70 ttrrrlll := ⟨(fun v h => by cases h; exact ⟨ti70_ok, rfl⟩), ttrrrllll_ok, ttrrrlllr_ok⟩
theorem ttrrrllrll_ok : TrAll (fun i v => TOk Tryz.prog i v ∧ v.zero.cells.size = v.size) 256 294 ttrrrllrll := ⟨(fun v h => by cases h; exact ⟨ti294_ok, rfl⟩), trivial, trivial⟩
theorem ttrrrllrlr_ok : TrAll (fun i v => TOk Tryz.prog i v ∧ v.zero.cells.size = v.size) 256 422 ttrrrllrlr := ⟨(fun v h => by cases h; exact ⟨ti422_ok, rfl⟩), trivial, trivial⟩
theorem ttrrrllrl_ok : TrAll (fun i v => TOk Tryz.prog i v ∧ v.zero.cells.size = v.size) 128 166 ttrrrllrl := ⟨(fun v h => by cases h; exact ⟨ti166_ok, rfl⟩), ttrrrllrll_ok, ttrrrllrlr_ok⟩
theorem ttrrrllrrl_ok : TrAll (fun i v => TOk Tryz.prog i v ∧ v.zero.cells.size = v.size) 256 358 ttrrrllrrl := ⟨(fun v h => by cases h; exact ⟨ti358_ok, rfl⟩), trivial, trivial⟩
theorem ttrrrllrrr_ok : TrAll (fun i v => TOk Tryz.prog i v ∧ v.zero.cells.size = v.size) 256 486 ttrrrllrrr := ⟨(fun v h => by cases h; exact ⟨ti486_ok, rfl⟩), trivial, trivial⟩
theorem ttrrrllrr_ok : TrAll (fun i v => TOk Tryz.prog i v ∧ v.zero.cells.size = v.size) 128 230 ttrrrllrr := ⟨(fun v h => by cases h; exact ⟨ti230_ok, rfl⟩), ttrrrllrrl_ok, ttrrrllrrr_ok⟩
theorem ttrrrllr_ok : TrAll (fun i v => TOk Tryz.prog i v ∧ v.zero.cells.size = v.size) 64 102 ttrrrllr := ⟨(fun v h => by cases h; exact ⟨ti102_ok, rfl⟩), ttrrrllrl_ok, ttrrrllrr_ok⟩
theorem ttrrrll_ok : TrAll (fun i v => TOk Tryz.prog i v ∧ v.zero.cells.size = v.size) 32 38 ttrrrll := ⟨(fun v h => by cases h; exact ⟨ti38_ok, rfl⟩), ttrrrlll_ok, ttrrrllr_ok⟩
theorem ttrrrlrlll_ok : TrAll (fun i v => TOk Tryz.prog i v ∧ v.zero.cells.size = v.size) 256 278 ttrrrlrlll := ⟨(fun v h => by cases h; exact ⟨ti278_ok, rfl⟩), trivial, trivial⟩
theorem ttrrrlrllr_ok : TrAll (fun i v => TOk Tryz.prog i v ∧ v.zero.cells.size = v.size) 256 406 ttrrrlrllr := ⟨(fun v h => by cases h; exact ⟨ti406_ok, rfl⟩), trivial, trivial⟩
theorem ttrrrlrll_ok : TrAll (fun i v => TOk Tryz.prog i v ∧ v.zero.cells.size = v.size) 128 150 ttrrrlrll := ⟨(fun v h => by cases h; exact ⟨ti150_ok, rfl⟩), ttrrrlrlll_ok, ttrrrlrllr_ok⟩
theorem ttrrrlrlrl_ok : TrAll (fun i v => TOk Tryz.prog i v ∧ v.zero.cells.size = v.size) 256 342 ttrrrlrlrl := ⟨(fun v h => by cases h; exact ⟨ti342_ok, rfl⟩), trivial, trivial⟩
theorem ttrrrlrlrr_ok : TrAll (fun i v => TOk Tryz.prog i v ∧ v.zero.cells.size = v.size) 256 470 ttrrrlrlrr := ⟨(fun v h => by cases h; exact ⟨ti470_ok, rfl⟩), trivial, trivial⟩
theorem ttrrrlrlr_ok : TrAll (fun i v => TOk Tryz.prog i v ∧ v.zero.cells.size = v.size) 128 214 ttrrrlrlr := ⟨(fun v h => by cases h; exact ⟨ti214_ok, rfl⟩), ttrrrlrlrl_ok, ttrrrlrlrr_ok⟩
theorem ttrrrlrl_ok : TrAll (fun i v => TOk Tryz.prog i v ∧ v.zero.cells.size = v.size) 64 86 ttrrrlrl := ⟨(fun v h => by cases h; exact ⟨ti86_ok, rfl⟩), ttrrrlrll_ok, ttrrrlrlr_ok⟩
theorem ttrrrlrrll_ok : TrAll (fun i v => TOk Tryz.prog i v ∧ v.zero.cells.size = v.size) 256 310 ttrrrlrrll := ⟨(fun v h => by cases h; exact ⟨ti310_ok, rfl⟩), trivial, trivial⟩
theorem ttrrrlrrlr_ok : TrAll (fun i v => TOk Tryz.prog i v ∧ v.zero.cells.size = v.size) 256 438 ttrrrlrrlr := ⟨(fun v h => by cases h; exact ⟨ti438_ok, rfl⟩), trivial, trivial⟩
theorem ttrrrlrrl_ok : TrAll (fun i v => TOk Tryz.prog i v ∧ v.zero.cells.size = v.size) 128 182 ttrrrlrrl := ⟨(fun v h => by cases h; exact ⟨ti182_ok, rfl⟩), ttrrrlrrll_ok, ttrrrlrrlr_ok⟩
theorem ttrrrlrrrl_ok : TrAll (fun i v => TOk Tryz.prog i v ∧ v.zero.cells.size = v.size) 256 374 ttrrrlrrrl := ⟨(fun v h => by cases h; exact ⟨ti374_ok, rfl⟩), trivial, trivial⟩
theorem ttrrrlrrrr_ok : TrAll (fun i v => TOk Tryz.prog i v ∧ v.zero.cells.size = v.size) 256 502 ttrrrlrrrr := ⟨(fun v h => by cases h; exact ⟨ti502_ok, rfl⟩), trivial, trivial⟩
theorem ttrrrlrrr_ok : TrAll (fun i v => TOk Tryz.prog i v ∧ v.zero.cells.size = v.size) 128 246 ttrrrlrrr := ⟨(fun v h => by cases h; exact ⟨ti246_ok, rfl⟩), ttrrrlrrrl_ok, ttrrrlrrrr_ok⟩
theorem ttrrrlrr_ok : TrAll (fun i v => TOk Tryz.prog i v ∧ v.zero.cells.size = v.size) 64 118 ttrrrlrr := ⟨(fun v h => by cases h; exact ⟨ti118_ok, rfl⟩), ttrrrlrrl_ok, ttrrrlrrr_ok⟩
theorem ttrrrlr_ok : TrAll (fun i v => TOk Tryz.prog i v ∧ v.zero.cells.size = v.size) 32 54 ttrrrlr := ⟨(fun v h => by cases h; exact ⟨ti54_ok, rfl⟩), ttrrrlrl_ok, ttrrrlrr_ok⟩
theorem ttrrrl_ok : TrAll (fun i v => TOk Tryz.prog i v ∧ v.zero.cells.size = v.size) 16 22 ttrrrl := ⟨(fun v h => by cases h; exact ⟨ti22_ok, rfl⟩), ttrrrll_ok, ttrrrlr_ok⟩
theorem ttrrrrllll_ok : TrAll (fun i v => TOk Tryz.prog i v ∧ v.zero.cells.size = v.size) 256 270 ttrrrrllll := ⟨(fun v h => by cases h; exact ⟨ti270_ok, rfl⟩), trivial, trivial⟩
theorem ttrrrrlllr_ok : TrAll (fun i v => TOk Tryz.prog i v ∧ v.zero.cells.size = v.size) 256 398 ttrrrrlllr := ⟨(fun v h => by cases h; exact ⟨ti398_ok, rfl⟩), trivial, trivial⟩
theorem ttrrrrlll_ok : TrAll (fun i v => TOk Tryz.prog i v ∧ v.zero.cells.size = v.size) 128 142 ttrrrrlll := ⟨(fun v h => by cases h; exact ⟨ti142_ok, rfl⟩), ttrrrrllll_ok, ttrrrrlllr_ok⟩
theorem ttrrrrllrl_ok : TrAll (fun i v => TOk Tryz.prog i v ∧ v.zero.cells.size = v.size) 256 334 ttrrrrllrl := ⟨(fun v h => by cases h; exact ⟨ti334_ok, rfl⟩), trivial, trivial⟩
theorem ttrrrrllrr_ok : TrAll (fun i v => TOk Tryz.prog i v ∧ v.zero.cells.size = v.size) 256 462 ttrrrrllrr := ⟨(fun v h => by cases h; exact ⟨ti462_ok, rfl⟩), trivial, trivial⟩
theorem ttrrrrllr_ok : TrAll (fun i v => TOk Tryz.prog i v ∧ v.zero.cells.size = v.size) 128 206 ttrrrrllr := ⟨(fun v h => by cases h; exact ⟨ti206_ok, rfl⟩), ttrrrrllrl_ok, ttrrrrllrr_ok⟩
theorem ttrrrrll_ok : TrAll (fun i v => TOk Tryz.prog i v ∧ v.zero.cells.size = v.size) 64 78 ttrrrrll := ⟨(fun v h => by cases h; exact ⟨ti78_ok, rfl⟩), ttrrrrlll_ok, ttrrrrllr_ok⟩
theorem ttrrrrlrll_ok : TrAll (fun i v => TOk Tryz.prog i v ∧ v.zero.cells.size = v.size) 256 302 ttrrrrlrll := ⟨(fun v h => by cases h; exact ⟨ti302_ok, rfl⟩), trivial, trivial⟩
theorem ttrrrrlrlr_ok : TrAll (fun i v => TOk Tryz.prog i v ∧ v.zero.cells.size = v.size) 256 430 ttrrrrlrlr := ⟨(fun v h => by cases h; exact ⟨ti430_ok, rfl⟩), trivial, trivial⟩
theorem ttrrrrlrl_ok : TrAll (fun i v => TOk Tryz.prog i v ∧ v.zero.cells.size = v.size) 128 174 ttrrrrlrl := ⟨(fun v h => by cases h; exact ⟨ti174_ok, rfl⟩), ttrrrrlrll_ok, ttrrrrlrlr_ok⟩
theorem ttrrrrlrrl_ok : TrAll (fun i v => TOk Tryz.prog i v ∧ v.zero.cells.size = v.size) 256 366 ttrrrrlrrl := ⟨(fun v h => by cases h; exact ⟨ti366_ok, rfl⟩), trivial, trivial⟩
theorem ttrrrrlrrr_ok : TrAll (fun i v => TOk Tryz.prog i v ∧ v.zero.cells.size = v.size) 256 494 ttrrrrlrrr := ⟨(fun v h => by cases h; exact ⟨ti494_ok, rfl⟩), trivial, trivial⟩
theorem ttrrrrlrr_ok : TrAll (fun i v => TOk Tryz.prog i v ∧ v.zero.cells.size = v.size) 128 238 ttrrrrlrr := ⟨(fun v h => by cases h; exact ⟨ti238_ok, rfl⟩), ttrrrrlrrl_ok, ttrrrrlrrr_ok⟩
theorem ttrrrrlr_ok : TrAll (fun i v => TOk Tryz.prog i v ∧ v.zero.cells.size = v.size) 64 110 ttrrrrlr := ⟨(fun v h => by cases h; exact ⟨ti110_ok, rfl⟩), ttrrrrlrl_ok, ttrrrrlrr_ok⟩
theorem ttrrrrl_ok : TrAll (fun i v => TOk Tryz.prog i v ∧ v.zero.cells.size = v.size) 32 46 ttrrrrl := ⟨(fun v h => by cases h; exact ⟨ti46_ok, rfl⟩), ttrrrrll_ok, ttrrrrlr_ok⟩
theorem ttrrrrrlll_ok : TrAll (fun i v => TOk Tryz.prog i v ∧ v.zero.cells.size = v.size) 256 286 ttrrrrrlll := ⟨(fun v h => by cases h; exact ⟨ti286_ok, rfl⟩), trivial, trivial⟩
theorem ttrrrrrllr_ok : TrAll (fun i v => TOk Tryz.prog i v ∧ v.zero.cells.size = v.size) 256 414 ttrrrrrllr := ⟨(fun v h => by cases h; exact ⟨ti414_ok, rfl⟩), trivial, trivial⟩
theorem ttrrrrrll_ok : TrAll (fun i v => TOk Tryz.prog i v ∧ v.zero.cells.size = v.size) 128 158 ttrrrrrll := ⟨(fun v h => by cases h; exact ⟨ti158_ok, rfl⟩), ttrrrrrlll_ok, ttrrrrrllr_ok⟩
theorem ttrrrrrlrl_ok : TrAll (fun i v => TOk Tryz.prog i v ∧ v.zero.cells.size = v.size) 256 350 ttrrrrrlrl := ⟨(fun v h => by cases h; exact ⟨ti350_ok, rfl⟩), trivial, trivial⟩
theorem ttrrrrrlrr_ok : TrAll (fun i v => TOk Tryz.prog i v ∧ v.zero.cells.size = v.size) 256 478 ttrrrrrlrr := ⟨(fun v h => by cases h; exact ⟨ti478_ok, rfl⟩), trivial, trivial⟩
theorem ttrrrrrlr_ok : TrAll (fun i v => TOk Tryz.prog i v ∧ v.zero.cells.size = v.size) 128 222 ttrrrrrlr := ⟨(fun v h => by cases h; exact ⟨ti222_ok, rfl⟩), ttrrrrrlrl_ok, ttrrrrrlrr_ok⟩
theorem ttrrrrrl_ok : TrAll (fun i v => TOk Tryz.prog i v ∧ v.zero.cells.size = v.size) 64 94 ttrrrrrl := ⟨(fun v h => by cases h; exact ⟨ti94_ok, rfl⟩), ttrrrrrll_ok, ttrrrrrlr_ok⟩
theorem ttrrrrrrll_ok : TrAll (fun i v => TOk Tryz.prog i v ∧ v.zero.cells.size = v.size) 256 318 ttrrrrrrll := ⟨(fun v h => by cases h; exact ⟨ti318_ok, rfl⟩), trivial, trivial⟩
theorem ttrrrrrrlr_ok : TrAll (fun i v => TOk Tryz.prog i v ∧ v.zero.cells.size = v.size) 256 446 ttrrrrrrlr := ⟨(fun v h => by cases h; exact ⟨ti446_ok, rfl⟩), trivial, trivial⟩
theorem ttrrrrrrl_ok : TrAll (fun i v => TOk Tryz.prog i v ∧ v.zero.cells.size = v.size) 128 190 ttrrrrrrl := ⟨(fun v h => by cases h; exact ⟨ti190_ok, rfl⟩), ttrrrrrrll_ok, ttrrrrrrlr_ok⟩
theorem ttrrrrrrrl_ok : TrAll (fun i v => TOk Tryz.prog i v ∧ v.zero.cells.size = v.size) 256 382 ttrrrrrrrl := ⟨(fun v h => by cases h; exact ⟨ti382_ok, rfl⟩), trivial, trivial⟩
theorem ttrrrrrrrr_ok : TrAll (fun i v => TOk Tryz.prog i v ∧ v.zero.cells.size = v.size) 256 510 ttrrrrrrrr := ⟨(fun v h => by cases h; exact ⟨ti510_ok, rfl⟩), trivial, trivial⟩
theorem ttrrrrrrr_ok : TrAll (fun i v => TOk Tryz.prog i v ∧ v.zero.cells.size = v.size) 128 254 ttrrrrrrr := ⟨(fun v h => by cases h; exact ⟨ti254_ok, rfl⟩), ttrrrrrrrl_ok, ttrrrrrrrr_ok⟩
theorem ttrrrrrr_ok : TrAll (fun i v => TOk Tryz.prog i v ∧ v.zero.cells.size = v.size) 64 126 ttrrrrrr := ⟨(fun v h => by cases h; exact ⟨ti126_ok, rfl⟩), ttrrrrrrl_ok, ttrrrrrrr_ok⟩
theorem ttrrrrr_ok : TrAll (fun i v => TOk Tryz.prog i v ∧ v.zero.cells.size = v.size) 32 62 ttrrrrr := ⟨(fun v h => by cases h; exact ⟨ti62_ok, rfl⟩), ttrrrrrl_ok, ttrrrrrr_ok⟩
theorem ttrrrr_ok : TrAll (fun i v => TOk Tryz.prog i v ∧ v.zero.cells.size = v.size) 16 30 ttrrrr := ⟨(fun v h => by cases h; exact ⟨ti30_ok, rfl⟩), ttrrrrl_ok, ttrrrrr_ok⟩
theorem ttrrr_ok : TrAll (fun i v => TOk Tryz.prog i v ∧ v.zero.cells.size = v.size) 8 14 ttrrr := ⟨(fun v h => by cases h; exact ⟨ti14_ok, rfl⟩), ttrrrl_ok, ttrrrr_ok⟩
theorem ttrr_ok : TrAll (fun i v => TOk Tryz.prog i v ∧ v.zero.cells.size = v.size) 4 6 ttrr := ⟨(fun v h => by cases h; exact ⟨ti6_ok, rfl⟩), ttrrl_ok, ttrrr_ok⟩
theorem ttr_ok : TrAll (fun i v => TOk Tryz.prog i v ∧ v.zero.cells.size = v.size) 2 2 ttr := ⟨(fun v h => by cases h; exact ⟨ti2_ok, rfl⟩), ttrl_ok, ttrr_ok⟩
theorem tt_ok : TrAll (fun i v => TOk Tryz.prog i v ∧ v.zero.cells.size = v.size) 1 0 tt := ⟨(fun v h => by cases h; exact ⟨ti0_ok, rfl⟩), ttl_ok, ttr_ok⟩
end Go.Ev
