/- The checks, one by one. -/
import Derived.Test.YtekfjbejfondnaaKc0
import Derived.Test.YtekfjbejfondnaaKe
import Derived.Test.YtekfjbejfondnaaProg
/-! The checks, one by one. -/
namespace Go.Proofs.Ytekfjbejfondnaa.Tom
open Go
theorem chk_3 : chkF Try.prog sig (drB Try.prog sig) 3 f_laws_FnExactValueOf = true := by kernel_rfl
theorem chk_4 : chkF Try.prog sig (drB Try.prog sig) 4 f_laws_FnExactLeftFor = true := by kernel_rfl
theorem chk_5 : chkF Try.prog sig (drB Try.prog sig) 5 f_laws_FnExactFreeHandle = true := by kernel_rfl
theorem chk_6 : chkF Try.prog sig (drB Try.prog sig) 6 f_laws_FnExactNewHandle = true := by kernel_rfl
theorem chk_7 : chkF Try.prog sig (drB Try.prog sig) 7 f_laws_FnFreed = true := by kernel_rfl
theorem chk_8 : chkF Try.prog sig (drB Try.prog sig) 8 f_laws_FnHandles = true := by kernel_rfl
theorem chk_9 : chkF Try.prog sig (drB Try.prog sig) 9 f_laws_FnExactPlayBook = true := by kernel_rfl
theorem chk_10 : chkF Try.prog sig (drB Try.prog sig) 10 f_laws_szBook = true := by kernel_rfl
theorem chk_11 : chkF Try.prog sig (drB Try.prog sig) 11 f_spec_ValueOf = true := by kernel_rfl
theorem chk_12 : chkF Try.prog sig (drB Try.prog sig) 12 f_laws_toBook = true := by kernel_rfl
theorem chk_13 : chkF Try.prog sig (drB Try.prog sig) 13 f_laws_toHandle = true := by kernel_rfl
theorem chk_14 : chkF Try.prog sig (drB Try.prog sig) 14 f_impl_ValueOf = true := by kernel_rfl
theorem chk_15 : chkF Try.prog sig (drB Try.prog sig) 15 f_laws_eqBook = true := by kernel_rfl
theorem chk_16 : chkF Try.prog sig (drB Try.prog sig) 16 f_spec_LeftFor = true := by kernel_rfl
theorem chk_17 : chkF Try.prog sig (drB Try.prog sig) 17 f_impl_LeftFor = true := by kernel_rfl
theorem chk_18 : chkF Try.prog sig (drB Try.prog sig) 18 f_spec_FreeHandle = true := by kernel_rfl
theorem chk_19 : chkF Try.prog sig (drB Try.prog sig) 19 f_impl_FreeHandle = true := by kernel_rfl
theorem chk_20 : chkF Try.prog sig (drB Try.prog sig) 20 f_laws_markBook = true := by kernel_rfl
theorem chk_21 : chkF Try.prog sig (drB Try.prog sig) 21 f_laws_heldBook = true := by kernel_rfl
theorem chk_22 : chkF Try.prog sig (drB Try.prog sig) 22 f_spec_NewHandle = true := by kernel_rfl
theorem chk_23 : chkF Try.prog sig (drB Try.prog sig) 23 f_impl_NewHandle = true := by kernel_rfl
theorem chk_24 : chkF Try.prog sig (drB Try.prog sig) 24 f_laws_eqHandle = true := by kernel_rfl
theorem chk_25 : chkF Try.prog sig (drB Try.prog sig) 25 f_spec_DrawNewHandle = true := by kernel_rfl
theorem chk_26 : chkF Try.prog sig (drB Try.prog sig) 26 f_laws_sameBook = true := by kernel_rfl
theorem chk_27 : chkF Try.prog sig (drB Try.prog sig) 27 f_impl_GoodBook = true := by kernel_rfl
theorem chk_28 : chkF Try.prog sig (drB Try.prog sig) 28 f_spec_GoodBook = true := by kernel_rfl
theorem chk_29 : chkF Try.prog sig (drB Try.prog sig) 29 f_spec_DrawValueOf = true := by kernel_rfl
theorem chk_30 : chkF Try.prog sig (drB Try.prog sig) 30 f_spec_DrawEmptyBook = true := by kernel_rfl
theorem chk_31 : chkF Try.prog sig (drB Try.prog sig) 31 f_impl_EmptyBook = true := by kernel_rfl
theorem chk_32 : chkF Try.prog sig (drB Try.prog sig) 32 f_spec_EmptyBook = true := by kernel_rfl
theorem chk_33 : chkF Try.prog sig (drB Try.prog sig) 33 f_spec_DrawPlayBook = true := by kernel_rfl
theorem chk_34 : chkF Try.prog sig (drB Try.prog sig) 34 f_impl_PlayBook = true := by kernel_rfl
theorem chk_35 : chkF Try.prog sig (drB Try.prog sig) 35 f_spec_PlayBook = true := by kernel_rfl
theorem chk_36 : chkF Try.prog sig (drB Try.prog sig) 36 f_laws_sameHandles = true := by kernel_rfl
theorem chk_37 : chkF Try.prog sig (drB Try.prog sig) 37 f_spec_DrawLeftFor = true := by kernel_rfl
theorem chk_38 : chkF Try.prog sig (drB Try.prog sig) 38 f_laws_szHandleStepS = true := by kernel_rfl
theorem chk_39 : chkF Try.prog sig (drB Try.prog sig) 39 f_laws_toHandleStepS = true := by kernel_rfl
theorem chk_40 : chkF Try.prog sig (drB Try.prog sig) 40 f_laws_eqHandleS = true := by kernel_rfl
theorem chk_41 : chkF Try.prog sig (drB Try.prog sig) 41 f_laws_eqHandleStepS = true := by kernel_rfl
theorem chk_42 : chkF Try.prog sig (drB Try.prog sig) 42 f_laws_markHandleStepS = true := by kernel_rfl
theorem chk_43 : chkF Try.prog sig (drB Try.prog sig) 43 f_laws_markHandleS = true := by kernel_rfl
theorem chk_44 : chkF Try.prog sig (drB Try.prog sig) 44 f_laws_heldHandleS = true := by kernel_rfl
theorem chk_45 : chkF Try.prog sig (drB Try.prog sig) 45 f_laws_szSlotS = true := by kernel_rfl
theorem chk_46 : chkF Try.prog sig (drB Try.prog sig) 46 f_spec_l16Holds = true := by kernel_rfl
theorem chk_47 : chkF Try.prog sig (drB Try.prog sig) 47 f_laws_toSlotS = true := by kernel_rfl
theorem chk_48 : chkF Try.prog sig (drB Try.prog sig) 48 f_impl_isBook = true := by kernel_rfl
theorem chk_49 : chkF Try.prog sig (drB Try.prog sig) 49 f_impl_Book_has = true := by kernel_rfl
theorem chk_50 : chkF Try.prog sig (drB Try.prog sig) 50 f_laws_eqSlotS = true := by kernel_rfl
theorem chk_51 : chkF Try.prog sig (drB Try.prog sig) 51 f_spec_l16Own = true := by kernel_rfl
theorem chk_52 : chkF Try.prog sig (drB Try.prog sig) 52 f_slices_Clone_Slot = true := by kernel_rfl
theorem chk_53 : chkF Try.prog sig (drB Try.prog sig) 53 f_laws_markSlotS = true := by kernel_rfl
theorem chk_54 : chkF Try.prog sig (drB Try.prog sig) 54 f_laws_heldSlotS = true := by kernel_rfl
theorem chk_55 : chkF Try.prog sig (drB Try.prog sig) 55 f_spec_l1In = true := by kernel_rfl
theorem chk_56 : chkF Try.prog sig (drB Try.prog sig) 56 f_impl_within = true := by kernel_rfl
theorem chk_57 : chkF Try.prog sig (drB Try.prog sig) 57 f_impl_Book_create = true := by kernel_rfl
theorem chk_58 : chkF Try.prog sig (drB Try.prog sig) 58 f_spec_l1Cur_handleBook = true := by kernel_rfl
theorem chk_59 : chkF Try.prog sig (drB Try.prog sig) 59 f_spec_l1Cur_among = true := by kernel_rfl
theorem chk_60 : chkF Try.prog sig (drB Try.prog sig) 60 f_spec_l1Cur_pick = true := by kernel_rfl
theorem chk_61 : chkF Try.prog sig (drB Try.prog sig) 61 f_spec_l1Cur_one = true := by kernel_rfl
theorem chk_62 : chkF Try.prog sig (drB Try.prog sig) 62 f_spec_l1Cur_handleSteps = true := by kernel_rfl
theorem chk_63 : chkF Try.prog sig (drB Try.prog sig) 63 f_impl_Book_step = true := by kernel_rfl
theorem chk_64 : chkF Try.prog sig (drB Try.prog sig) 64 f_spec_DrawGoodBook = true := by kernel_rfl
theorem chk_65 : chkF Try.prog sig (drB Try.prog sig) 65 f_laws_toHandleStep = true := by kernel_rfl
theorem chk_66 : chkF Try.prog sig (drB Try.prog sig) 66 f_laws_eqHandleStep = true := by kernel_rfl
theorem chk_67 : chkF Try.prog sig (drB Try.prog sig) 67 f_laws_toSlot = true := by kernel_rfl
theorem chk_68 : chkF Try.prog sig (drB Try.prog sig) 68 f_slices_ContainsFunc_Slot = true := by kernel_rfl
theorem chk_69 : chkF Try.prog sig (drB Try.prog sig) 69 f_impl_isBook_c1 = true := by kernel_rfl
theorem chk_70 : chkF Try.prog sig (drB Try.prog sig) 70 f_laws_eqSlot = true := by kernel_rfl
theorem chk_71 : chkF Try.prog sig (drB Try.prog sig) 71 f_spec_l1Cur_next = true := by kernel_rfl
theorem chk_72 : chkF Try.prog sig (drB Try.prog sig) 72 f_slices_IndexFunc_Slot = true := by kernel_rfl
theorem chk_all : allF (fun f fn => chkF Try.prog sig (drB Try.prog sig) f fn = true) tbl := ⟨chk_3, chk_4, chk_5, chk_6, chk_7, chk_8, chk_9, chk_10, chk_11, chk_12, chk_13, chk_14, chk_15, chk_16, chk_17, chk_18, chk_19, chk_20, chk_21, chk_22, chk_23, chk_24, chk_25, chk_26, chk_27, chk_28, chk_29, chk_30, chk_31, chk_32, chk_33, chk_34, chk_35, chk_36, chk_37, chk_38, chk_39, chk_40, chk_41, chk_42, chk_43, chk_44, chk_45, chk_46, chk_47, chk_48, chk_49, chk_50, chk_51, chk_52, chk_53, chk_54, chk_55, chk_56, chk_57, chk_58, chk_59, chk_60, chk_61, chk_62, chk_63, chk_64, chk_65, chk_66, chk_67, chk_68, chk_69, chk_70, chk_71, chk_72, trivial⟩
end Go.Proofs.Ytekfjbejfondnaa.Tom
